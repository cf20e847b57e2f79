import Derived.Test.YtejjeggaofpbiaaGreatCode2
import Derived.Test.YtejjeggaofpbiaaGreatSig
set_option linter.unusedVariables false
set_option maxRecDepth 100000
namespace Go.Proofs.YtejjeggaofpbiaaGreat
open Go.Ev
/-! zugzwang/msg.move$1 -/
def msg_move_1.body (s0 : Int) (R : Value → Heap → Prop) (h : Heap) : Prop :=
  if (decide (s0 ≥ 0)) = true then
  R (.bool (decide (s0 < 64))) h
  else
  R (.bool false) h
def msg_move_1.ann : Ann := (.seq .leaf (.seq .leaf .leaf))
theorem msg_move_1.eq (s0 : Int) (R : Value → Heap → Prop) (h : Heap) : msg_move_1.body s0 R h = evFn Tryz.prog Tryz.f75 msg_move_1.ann [(.int .i64 s0)] R h := by kernel_rfl
theorem msg_move_1.calls {s0 : Int} {R : Value → Heap → Prop} {h : Heap} (H : msg_move_1.body s0 R h) : HC Tryz.prog F.msg_move_1 #[(.int .i64 s0)] R h :=
  evFn_sound mixed Tryz.func75 (by kernel_rfl) (msg_move_1.eq s0 R h ▸ H)

/-! zugzwang/msg.move -/
def msg_move.body (m0 : Array Value) (R : Value → Heap → Prop) (h : Heap) : Prop :=
  newK h m0 T.api_Move (fun (m_1 : Option Addr) (h : Heap) =>
  fldK m_1 0 (fun (a_2 : Addr) =>
  loadK (.int .i64) h ((some a_2)) (fun (v_3 : Int) =>
  callV Tryz.prog .bool ((Value.func (.func F.msg_move_1) #[] #[])) #[(.int .i64 v_3)] (fun (v_4 : Bool) (h : Heap) =>
  if v_4 = true then
  fldK m_1 1 (fun (a_5 : Addr) =>
  loadK (.int .i64) h ((some a_5)) (fun (v_6 : Int) =>
  callV Tryz.prog .bool ((Value.func (.func F.msg_move_1) #[] #[])) #[(.int .i64 v_6)] (fun (v_7 : Bool) (h : Heap) =>
  if v_7 = true then
  fldK m_1 2 (fun (a_8 : Addr) =>
  loadK (.int .i64) h ((some a_8)) (fun (v_9 : Int) =>
  if (v_9 == 0) = true then
  R (.bool true) h
  else
  fldK m_1 2 (fun (a_10 : Addr) =>
  loadK (.int .i64) h ((some a_10)) (fun (v_11 : Int) =>
  if (decide (v_11 ≥ 2)) = true then
  fldK m_1 2 (fun (a_12 : Addr) =>
  loadK (.int .i64) h ((some a_12)) (fun (v_13 : Int) =>
  R (.bool (decide (v_13 ≤ 5))) h))
  else
  R (.bool false) h))))
  else
  R (.bool false) h) h))
  else
  R (.bool false) h) h)))
def msg_move.ann : Ann := (.seq .leaf (.seq .leaf (.seq .leaf .leaf)))
theorem msg_move.eq (m0 : Array Value) (R : Value → Heap → Prop) (h : Heap) : msg_move.body m0 R h = evFn Tryz.prog Tryz.f64 msg_move.ann [(.agg m0)] R h := by kernel_rfl
theorem msg_move.calls {m0 : Array Value} {R : Value → Heap → Prop} {h : Heap} (H : msg_move.body m0 R h) : HC Tryz.prog F.msg_move #[(.agg m0)] R h :=
  evFn_sound mixed Tryz.func64 (by kernel_rfl) (msg_move.eq m0 R h ▸ H)

/-! zugzwang/msg.named -/
def msg_named.body (b0 : Array Value) (R : Value → Heap → Prop) (h : Heap) : Prop :=
  newK h b0 T.api_Body (fun (b_1 : Option Addr) h =>
  newK h (zerosOf Tryz.prog T.api_Body) T.api_Body (fun (has_2 : Option Addr) h =>
  fldK b_1 0 (fun (a_3 : Addr) =>
  loadK (.int .i64) h ((some a_3)) (fun (v4 : Int) =>
  fldK has_2 0 (fun (a_5 : Addr) =>
  storeK h ((some a_5)) (.int .i64 v4) (fun h =>
  fldK b_1 0 (fun (a_6 : Addr) =>
  loadK (.int .i64) h ((some a_6)) (fun (v7 : Int) =>
  if (v7 == 1) = true then
  fldK b_1 1 (fun (a_8 : Addr) =>
  fldK b_1 4 (fun (a_9 : Addr) =>
  fldK b_1 1 (fun (a_10 : Addr) =>
  loadAggK (sizeOfT Tryz.prog T.api_Move) h ((some a_8)) (fun (v11 : Array Value) =>
  fldK has_2 1 (fun (a_12 : Addr) =>
  loadK .bool h ((some a_9)) (fun (v13 : Bool) =>
  loadAggK (sizeOfT Tryz.prog T.api_Move) h ((some a_10)) (fun (v14 : Array Value) =>
  callK Tryz.prog .bool F.msg_move #[.agg v14] (fun (v15 : Bool) h =>
  stillK .bool h ((some a_9)) v13 ∧
  stillAggK (sizeOfT Tryz.prog T.api_Move) h ((some a_8)) v11 ∧
  storeAggK (sizeOfT Tryz.prog T.api_Move) h ((some a_12)) v11 (fun h =>
  stillK .bool h ((some a_9)) v13 ∧
  fldK has_2 4 (fun (a_16 : Addr) =>
  storeK h ((some a_16)) (.bool v13) (fun h =>
  loadAggK (sizeOfT Tryz.prog T.api_Body) h has_2 (fun (v17 : Array Value) =>
  storeAggK (sizeOfT Tryz.prog T.api_Body) h has_2 v17 (fun h =>
  quietK Tryz.prog .agg (Instr.loadAt T.api_Body (.pointer has_2)) (fun r18 =>
  R (.tuple #[.agg r18, .bool v15]) h) h)))))) h)))))))
  else
  if (v7 == 2) = true then
  fldK b_1 5 (fun (a_19 : Addr) =>
  fldK b_1 5 (fun (a_20 : Addr) =>
  loadK (.int .i64) h ((some a_19)) (fun (v21 : Int) =>
  fldK has_2 5 (fun (a_22 : Addr) =>
  loadK (.int .i64) h ((some a_20)) (fun (v23 : Int) =>
  if (v23 == 6) = true then
  storeK h ((some a_22)) (.int .i64 v21) (fun h =>
  loadAggK (sizeOfT Tryz.prog T.api_Body) h has_2 (fun (v24 : Array Value) =>
  storeAggK (sizeOfT Tryz.prog T.api_Body) h has_2 v24 (fun h =>
  quietK Tryz.prog .agg (Instr.loadAt T.api_Body (.pointer has_2)) (fun r25 =>
  R (.tuple #[.agg r25, .bool true]) h) h)))
  else
  fldK b_1 5 (fun (a_26 : Addr) =>
  loadK (.int .i64) h ((some a_26)) (fun (v27 : Int) =>
  storeK h ((some a_22)) (.int .i64 v21) (fun h =>
  stillK (.int .i64) h ((some a_26)) v27 ∧
  loadAggK (sizeOfT Tryz.prog T.api_Body) h has_2 (fun (v28 : Array Value) =>
  storeAggK (sizeOfT Tryz.prog T.api_Body) h has_2 v28 (fun h =>
  quietK Tryz.prog .agg (Instr.loadAt T.api_Body (.pointer has_2)) (fun r29 =>
  R (.tuple #[.agg r29, (.bool (v27 == 7))]) h) h))))))))))
  else
  if (v7 == 5) = true then
  fldK b_1 6 (fun (a_30 : Addr) =>
  loadAggK (sizeOfT Tryz.prog T.api_Tag) h ((some a_30)) (fun (v31 : Array Value) =>
  fldK has_2 6 (fun (a_32 : Addr) =>
  storeAggK (sizeOfT Tryz.prog T.api_Tag) h ((some a_32)) v31 (fun h =>
  loadAggK (sizeOfT Tryz.prog T.api_Body) h has_2 (fun (v33 : Array Value) =>
  storeAggK (sizeOfT Tryz.prog T.api_Body) h has_2 v33 (fun h =>
  quietK Tryz.prog .agg (Instr.loadAt T.api_Body (.pointer has_2)) (fun r34 =>
  R (.tuple #[.agg r34, .bool true]) h) h))))))
  else
  if (v7 == 7) = true then
  fldK b_1 1 (fun (a_35 : Addr) =>
  fldK b_1 38 (fun (a_36 : Addr) =>
  fldK b_1 1 (fun (a_37 : Addr) =>
  loadAggK (sizeOfT Tryz.prog T.api_Move) h ((some a_35)) (fun (v38 : Array Value) =>
  fldK has_2 1 (fun (a_39 : Addr) =>
  loadAggK (sizeOfT Tryz.prog T.api_Tag) h ((some a_36)) (fun (v40 : Array Value) =>
  loadAggK (sizeOfT Tryz.prog T.api_Move) h ((some a_37)) (fun (v41 : Array Value) =>
  callK Tryz.prog .bool F.msg_move #[.agg v41] (fun (v42 : Bool) h =>
  stillAggK (sizeOfT Tryz.prog T.api_Tag) h ((some a_36)) v40 ∧
  stillAggK (sizeOfT Tryz.prog T.api_Move) h ((some a_35)) v38 ∧
  storeAggK (sizeOfT Tryz.prog T.api_Move) h ((some a_39)) v38 (fun h =>
  stillAggK (sizeOfT Tryz.prog T.api_Tag) h ((some a_36)) v40 ∧
  fldK has_2 38 (fun (a_43 : Addr) =>
  storeAggK (sizeOfT Tryz.prog T.api_Tag) h ((some a_43)) v40 (fun h =>
  loadAggK (sizeOfT Tryz.prog T.api_Body) h has_2 (fun (v44 : Array Value) =>
  storeAggK (sizeOfT Tryz.prog T.api_Body) h has_2 v44 (fun h =>
  quietK Tryz.prog .agg (Instr.loadAt T.api_Body (.pointer has_2)) (fun r45 =>
  R (.tuple #[.agg r45, .bool v42]) h) h)))))) h)))))))
  else
  if (v7 == 3) = true then
  if (v7 == 3) = true then
  loadAggK (sizeOfT Tryz.prog T.api_Body) h has_2 (fun (v46 : Array Value) =>
  storeAggK (sizeOfT Tryz.prog T.api_Body) h has_2 v46 (fun h =>
  quietK Tryz.prog .agg (Instr.loadAt T.api_Body (.pointer has_2)) (fun r47 =>
  R (.tuple #[.agg r47, .bool true]) h) h))
  else
  loadAggK (sizeOfT Tryz.prog T.api_Body) h has_2 (fun (v48 : Array Value) =>
  storeAggK (sizeOfT Tryz.prog T.api_Body) h has_2 v48 (fun h =>
  quietK Tryz.prog .agg (Instr.loadAt T.api_Body (.pointer has_2)) (fun r49 =>
  R (.tuple #[.agg r49, .bool false]) h) h))
  else
  if (v7 == 4) = true then
  if (v7 == 4) = true then
  loadAggK (sizeOfT Tryz.prog T.api_Body) h has_2 (fun (v50 : Array Value) =>
  storeAggK (sizeOfT Tryz.prog T.api_Body) h has_2 v50 (fun h =>
  quietK Tryz.prog .agg (Instr.loadAt T.api_Body (.pointer has_2)) (fun r51 =>
  R (.tuple #[.agg r51, .bool true]) h) h))
  else
  loadAggK (sizeOfT Tryz.prog T.api_Body) h has_2 (fun (v52 : Array Value) =>
  storeAggK (sizeOfT Tryz.prog T.api_Body) h has_2 v52 (fun h =>
  quietK Tryz.prog .agg (Instr.loadAt T.api_Body (.pointer has_2)) (fun r53 =>
  R (.tuple #[.agg r53, .bool false]) h) h))
  else
  if (v7 == 6) = true then
  loadAggK (sizeOfT Tryz.prog T.api_Body) h has_2 (fun (v54 : Array Value) =>
  storeAggK (sizeOfT Tryz.prog T.api_Body) h has_2 v54 (fun h =>
  quietK Tryz.prog .agg (Instr.loadAt T.api_Body (.pointer has_2)) (fun r55 =>
  R (.tuple #[.agg r55, .bool true]) h) h))
  else
  loadAggK (sizeOfT Tryz.prog T.api_Body) h has_2 (fun (v56 : Array Value) =>
  storeAggK (sizeOfT Tryz.prog T.api_Body) h has_2 v56 (fun h =>
  quietK Tryz.prog .agg (Instr.loadAt T.api_Body (.pointer has_2)) (fun r57 =>
  R (.tuple #[.agg r57, .bool false]) h) h))))))))))
def msg_named.ann : Ann := (.seq .leaf (.seq .leaf (.seq (.seq .leaf (.block (.seq .leaf (.cond (.any (.loc 0 (.loc 2 (.loc 4 (.st 1 3968 (.loc 7 (.st 3 3584 (.st 5 3904 (.last 6 (.last 8 (.loc 9 (.last 10 (.loc 11 .done))))))))))))) (.seq .leaf (.cond (.any (.loc 0 (.loc 2 (.st 1 7168 (.loc 10 (.st 3 7152 (.loc 4 (.loc 5 (.locA 6 (.loc 7 (.loc 8 (.loc 9 (.last 11 (.loc 12 .done))))) (.st 7 4864 (.loc 8 (.loc 9 (.last 11 (.loc 12 .done)))))))))))))) (.seq .leaf (.cond .leaf (.seq .leaf (.cond (.any (.loc 0 (.loc 2 (.loc 4 (.st 1 3968 (.loc 7 (.st 3 3584 (.st 5 3904 (.last 6 (.last 8 (.loc 9 (.last 10 (.loc 11 .done))))))))))))) (.seq (.seq .leaf (.cond .leaf (.seq .leaf (.cond .leaf .leaf)))) (.cond .leaf .leaf)))))))))))) (.seq .leaf .leaf))))
theorem msg_named.eq (b0 : Array Value) (R : Value → Heap → Prop) (h : Heap) : msg_named.body b0 R h = evFn Tryz.prog Tryz.f52 msg_named.ann [.agg b0] R h := by kernel_rfl
theorem msg_named.calls {b0 : Array Value} {R : Value → Heap → Prop} {h : Heap} (H : msg_named.body b0 R h) : HC Tryz.prog F.msg_named #[.agg b0] R h :=
  evFn_sound mixed Tryz.func52 (by kernel_rfl) (msg_named.eq b0 R h ▸ H)

/-! zugzwang/msg.Body -/
def msg_Body.body (b0 : Array Value) (R : Value → Heap → Prop) (h : Heap) : Prop :=
  newK h b0 T.api_Body (fun (b_1 : Option Addr) (h : Heap) =>
  loadAggK (sizeOfT Tryz.prog T.api_Body) h b_1 (fun (v_2 : Array Value) =>
  callK Tryz.prog (Kd.pair .agg .bool) F.msg_named #[(.agg v_2)] (fun (v_3 : Array Value × Bool) (h : Heap) =>
  newK h (zerosOf Tryz.prog T.api_Body) T.api_Body (fun (has_4 : Option Addr) (h : Heap) =>
  storeAggK (sizeOfT Tryz.prog T.api_Body) h has_4 v_3.1 (fun (h : Heap) =>
  if v_3.2 = true then
  loadAggK (sizeOfT Tryz.prog T.api_Body) h has_4 (fun (v_5 : Array Value) =>
  loadAggK (sizeOfT Tryz.prog T.api_Body) h b_1 (fun (v_6 : Array Value) =>
  eqK Tryz.prog (binSem .eql T.api_Body (.tmp 12) (.tmp 13) (.agg v_5) (.agg v_6)) (fun (v_7 : Bool) =>
  R (.bool v_7) h)))
  else
  R (.bool false) h))) h))
def msg_Body.ann : Ann := (.seq .leaf (.seq .leaf (.seq .leaf .leaf)))
theorem msg_Body.eq (b0 : Array Value) (R : Value → Heap → Prop) (h : Heap) : msg_Body.body b0 R h = evFn Tryz.prog Tryz.f35 msg_Body.ann [(.agg b0)] R h := by kernel_rfl
theorem msg_Body.calls {b0 : Array Value} {R : Value → Heap → Prop} {h : Heap} (H : msg_Body.body b0 R h) : HC Tryz.prog F.msg_Body #[(.agg b0)] R h :=
  evFn_sound mixed Tryz.func35 (by kernel_rfl) (msg_Body.eq b0 R h ▸ H)

/-! slices.Clone[[]byte,byte] -/
def slices_Clone_byte_byte.body (s0 : Sl) (R : Value → Heap → Prop) (h : Heap) : Prop :=
  if s0.a.isNone = true then
  R (.slice none 0 0) h
  else
  newSlK h 0 #[] T.uint8 (fun (v_1 : Sl) (h : Heap) =>
  opK Tryz.prog .slice (Builtin.append_ #[T.sl_uint8, T.sl_uint8] T.sl_uint8 #[(.slice v_1.a v_1.n v_1.c), (.slice s0.a s0.n s0.c)]) (fun (v_2 : Sl) (h : Heap) =>
  R (.slice v_2.a v_2.n v_2.c) h) h)
def slices_Clone_byte_byte.ann : Ann := (.seq .leaf (.seq (.seq .leaf (.cond (.seq .leaf .leaf) .leaf)) (.seq .leaf .leaf)))
theorem slices_Clone_byte_byte.eq (s0 : Sl) (R : Value → Heap → Prop) (h : Heap) : slices_Clone_byte_byte.body s0 R h = evFn Tryz.prog Tryz.f22 slices_Clone_byte_byte.ann [(.slice s0.a s0.n s0.c)] R h := by kernel_rfl
theorem slices_Clone_byte_byte.calls {s0 : Sl} {R : Value → Heap → Prop} {h : Heap} (H : slices_Clone_byte_byte.body s0 R h) : HC Tryz.prog F.slices_Clone_byte_byte #[(.slice s0.a s0.n s0.c)] R h :=
  evFn_sound mixed Tryz.func22 (by kernel_rfl) (slices_Clone_byte_byte.eq s0 R h ▸ H)

/-! (*zugzwang/tags.Maker).there -/
def tags_Maker_there.body (m0 : Option Addr) (R : Value → Heap → Prop) (h : Heap) : Prop :=
  if (!m0.isNone) = true then
  derefK m0 (fun (a_1 : Addr) =>
  fldK ((some a_1)) 0 (fun (a_2 : Addr) =>
  fldK ((some a_2)) 0 (fun (a_3 : Addr) =>
  loadK .map h ((some a_3)) (fun (v_4 : Option Nat) =>
  R (.bool (!v_4.isNone)) h))))
  else
  R (.bool false) h
def tags_Maker_there.ann : Ann := (.seq .leaf (.seq .leaf .leaf))
theorem tags_Maker_there.eq (m0 : Option Addr) (R : Value → Heap → Prop) (h : Heap) : tags_Maker_there.body m0 R h = evFn Tryz.prog Tryz.f41 tags_Maker_there.ann [(.pointer m0)] R h := by kernel_rfl
theorem tags_Maker_there.calls {m0 : Option Addr} {R : Value → Heap → Prop} {h : Heap} (H : tags_Maker_there.body m0 R h) : HC Tryz.prog F.tags_Maker_there #[(.pointer m0)] R h :=
  evFn_sound mixed Tryz.func41 (by kernel_rfl) (tags_Maker_there.eq m0 R h ▸ H)

/-! maps.Clone[map[zugzwang/tags.thing]int,zugzwang/tags.thing,int] -/
def maps_Clone_map_tags_thing_int_tags_thing_int.body (m0 : Option Nat) (R : Value → Heap → Prop) (h : Heap) : Prop :=
  if m0.isNone = true then
  R (.map none) h
  else
  opK Tryz.prog .any (Instr.makeInterface T.map_atags_thing_int (.map m0)) (fun (v_1 : Value) (h : Heap) =>
  externK Tryz.prog .any F.maps_clone #[v_1] (fun (v_2 : Value) (h : Heap) =>
  opK Tryz.prog .map (Instr.typeAssert v_2 T.interface20 T.map_atags_thing_int false) (fun (v_3 : Option Nat) (h : Heap) =>
  R (.map v_3) h) h) h) h
def maps_Clone_map_tags_thing_int_tags_thing_int.ann : Ann := (.seq .leaf (.seq (.seq .leaf (.cond (.seq .leaf .leaf) .leaf)) (.seq .leaf .leaf)))
theorem maps_Clone_map_tags_thing_int_tags_thing_int.eq (m0 : Option Nat) (R : Value → Heap → Prop) (h : Heap) : maps_Clone_map_tags_thing_int_tags_thing_int.body m0 R h = evFn Tryz.prog Tryz.f45 maps_Clone_map_tags_thing_int_tags_thing_int.ann [(.map m0)] R h := by kernel_rfl
theorem maps_Clone_map_tags_thing_int_tags_thing_int.calls {m0 : Option Nat} {R : Value → Heap → Prop} {h : Heap} (H : maps_Clone_map_tags_thing_int_tags_thing_int.body m0 R h) : HC Tryz.prog F.maps_Clone_map_tags_thing_int_tags_thing_int #[(.map m0)] R h :=
  evFn_sound mixed Tryz.func45 (by kernel_rfl) (maps_Clone_map_tags_thing_int_tags_thing_int.eq m0 R h ▸ H)

/-! (*zugzwang/tags.Maker).Copy -/
def tags_Maker_Copy.body (m0 : Option Addr) (R : Value → Heap → Prop) (h : Heap) : Prop :=
  callK Tryz.prog .bool F.tags_Maker_there #[.pointer m0] (fun (v1 : Bool) h =>
  if (!v1) = true then
  R (.pointer none) h
  else
  derefK m0 (fun (a_2 : Addr) =>
  fldK ((some a_2)) 0 (fun (a_3 : Addr) =>
  fldK ((some a_3)) 0 (fun (a_4 : Addr) =>
  derefK m0 (fun (a_5 : Addr) =>
  fldK ((some a_5)) 1 (fun (a_6 : Addr) =>
  derefK m0 (fun (a_7 : Addr) =>
  fldK ((some a_7)) 2 (fun (a_8 : Addr) =>
  loadK .map h ((some a_4)) (fun (v9 : Option Nat) =>
  loadK .bool h ((some a_6)) (fun (v10 : Bool) =>
  loadK .slice h ((some a_8)) (fun (v11 : Sl) =>
  callK Tryz.prog .map F.maps_Clone_map_tags_thing_int_tags_thing_int #[(.map v9)] (fun (v12 : Option Nat) h =>
  stillK .slice h ((some a_8)) v11 ∧
  stillK .bool h ((some a_6)) v10 ∧
  buildK Tryz.prog (Instr.build T.tags_book #[(0, (.map v12))]) (fun (v13 : Array Value) =>
  callK Tryz.prog .slice F.slices_Clone_byte_byte #[.slice v11.a v11.n v11.c] (fun (v14 : Sl) h =>
  stillK .bool h ((some a_6)) v10 ∧
  buildK Tryz.prog (Instr.build T.tags_Maker #[(0, (.agg v13)), (1, (.bool v10)), (2, (.slice v14.a v14.n v14.c))]) (fun (v15 : Array Value) =>
  newK h v15 T.tags_Maker (fun (v16 : Option Addr) h =>
  R (.pointer v16) h))) h)) h))))))))))) h
def tags_Maker_Copy.ann : Ann := (.seq .leaf (.seq (.seq .leaf (.cond (.seq .leaf .leaf) .leaf)) (.seq (.any (.loc 0 (.loc 1 (.loc 2 (.loc 3 (.loc 7 (.loc 8 (.loc 9 (.loc 11 (.loc 12 (.loc 13 (.st 4 491616 (.st 10 458752 (.st 14 491520 (.last 5 (.loc 6 (.last 15 (.loc 16 (.last 17 (.loc 18 .done)))))))))))))))))))) .leaf)))
theorem tags_Maker_Copy.eq (m0 : Option Addr) (R : Value → Heap → Prop) (h : Heap) : tags_Maker_Copy.body m0 R h = evFn Tryz.prog Tryz.f27 tags_Maker_Copy.ann [.pointer m0] R h := by kernel_rfl
theorem tags_Maker_Copy.calls {m0 : Option Addr} {R : Value → Heap → Prop} {h : Heap} (H : tags_Maker_Copy.body m0 R h) : HC Tryz.prog F.tags_Maker_Copy #[.pointer m0] R h :=
  evFn_sound mixed Tryz.func27 (by kernel_rfl) (tags_Maker_Copy.eq m0 R h ▸ H)

/-! zugzwang/codec.New -/
def codec_New.body  (R : Value → Heap → Prop) (h : Heap) : Prop :=
  buildK Tryz.prog (Instr.build T.codec_state #[(0, (.bool true))]) (fun (v_1 : Array Value) =>
  buildK Tryz.prog (Instr.build T.codec_Writer #[(0, (.agg v_1))]) (fun (v_2 : Array Value) =>
  newK h v_2 T.codec_Writer (fun (v_3 : Option Addr) (h : Heap) =>
  R (.pointer v_3) h)))
def codec_New.ann : Ann := (.seq .leaf (.seq .leaf .leaf))
theorem codec_New.eq  (R : Value → Heap → Prop) (h : Heap) : codec_New.body  R h = evFn Tryz.prog Tryz.f65 codec_New.ann [] R h := by kernel_rfl
theorem codec_New.calls  {R : Value → Heap → Prop} {h : Heap} (H : codec_New.body  R h) : HC Tryz.prog F.codec_New #[] R h :=
  evFn_sound mixed Tryz.func65 (by kernel_rfl) (codec_New.eq  R h ▸ H)

/-! (*zugzwang/codec.state).sound -/
def codec_state_sound.body (s0 : Option Addr) (R : Value → Heap → Prop) (h : Heap) : Prop :=
  derefK s0 (fun (a_1 : Addr) =>
  fldK ((some a_1)) 1 (fun (a_2 : Addr) =>
  loadK (.int .i64) h ((some a_2)) (fun (v_3 : Int) =>
  R (.bool (v_3 == 0)) h)))
def codec_state_sound.ann : Ann := (.seq .leaf (.seq .leaf .leaf))
theorem codec_state_sound.eq (s0 : Option Addr) (R : Value → Heap → Prop) (h : Heap) : codec_state_sound.body s0 R h = evFn Tryz.prog Tryz.f102 codec_state_sound.ann [(.pointer s0)] R h := by kernel_rfl
theorem codec_state_sound.calls {s0 : Option Addr} {R : Value → Heap → Prop} {h : Heap} (H : codec_state_sound.body s0 R h) : HC Tryz.prog F.codec_state_sound #[(.pointer s0)] R h :=
  evFn_sound mixed Tryz.func102 (by kernel_rfl) (codec_state_sound.eq s0 R h ▸ H)

/-! (*zugzwang/codec.state).spoil -/
def codec_state_spoil.body (s0 : Option Addr) (e1 : Int) (R : Value → Heap → Prop) (h : Heap) : Prop :=
  joinW (fun (s_1 : Unit) (h : Heap) =>
  derefK s0 (fun (a_2 : Addr) =>
  fldK ((some a_2)) 1 (fun (a_3 : Addr) =>
  loadK (.int .i64) h ((some a_3)) (fun (v_4 : Int) =>
  R (.int .i64 v_4) h))))
  (fun J_5 =>
  derefK s0 (fun (a_6 : Addr) =>
  fldK ((some a_6)) 1 (fun (a_7 : Addr) =>
  loadK (.int .i64) h ((some a_7)) (fun (v_8 : Int) =>
  if (v_8 == 0) = true then
  derefK s0 (fun (a_9 : Addr) =>
  fldK ((some a_9)) 1 (fun (a_10 : Addr) =>
  storeK h ((some a_10)) (.int .i64 e1) (fun (h : Heap) =>
  J_5 () h)))
  else
  J_5 () h))))
def codec_state_spoil.ann : Ann := (.seq .leaf (.join [] (.seq .leaf (.cond .leaf .leaf)) (.seq .leaf .leaf)))
theorem codec_state_spoil.eq (s0 : Option Addr) (e1 : Int) (R : Value → Heap → Prop) (h : Heap) : codec_state_spoil.body s0 e1 R h = evFn Tryz.prog Tryz.f112 codec_state_spoil.ann [(.pointer s0), (.int .i64 e1)] R h := by kernel_rfl
theorem codec_state_spoil.calls {s0 : Option Addr} {e1 : Int} {R : Value → Heap → Prop} {h : Heap} (H : codec_state_spoil.body s0 e1 R h) : HC Tryz.prog F.codec_state_spoil #[(.pointer s0), (.int .i64 e1)] R h :=
  evFn_sound mixed Tryz.func112 (by kernel_rfl) (codec_state_spoil.eq s0 e1 R h ▸ H)

/-! zugzwang/codec.put[[]byte] -/
def codec_put_byte.body (w0 : Option Addr) (r1 : Array Value) (l2 : Sl) (R : Value → Heap → Prop) (h : Heap) : Prop :=
  newK h r1 T.codec_ruleasl_byte (fun (r1 : Option Addr) h =>
  if w0.isNone = true then
  R (.int .i64 1) h
  else
  derefK w0 (fun (a_2 : Addr) =>
  fldK ((some a_2)) 0 (fun (a_3 : Addr) =>
  fldK ((some a_3)) 0 (fun (a_4 : Addr) =>
  loadK .bool h ((some a_4)) (fun (v5 : Bool) =>
  if (!v5) = true then
  R (.int .i64 1) h
  else
  joinW (fun (s_6 : Unit) h =>
  derefK w0 (fun (a_7 : Addr) =>
  fldK ((some a_7)) 0 (fun (a_8 : Addr) =>
  fldK ((some a_8)) 1 (fun (a_9 : Addr) =>
  loadK (.int .i64) h ((some a_9)) (fun (v10 : Int) =>
  R (.int .i64 v10) h)))))
  (fun J_11 =>
  loopW (fun X_13 (s_12 : Int) (h : Heap) =>
  if (decide (s_12 < ((l2.n : Int)))) = true then
  idxK l2 s_12 (sizeOfT Tryz.prog T.sl_uint8) (fun (a_14 : Addr) =>
  loadK .slice h ((some a_14)) (fun (v15 : Sl) =>
  derefK w0 (fun (a_16 : Addr) =>
  fldK ((some a_16)) 0 (fun (a_17 : Addr) =>
  callK Tryz.prog .bool F.codec_state_sound #[(.pointer ((some a_17)))] (fun (v18 : Bool) h =>
  if (!v18) = true then
  J_11 () h
  else
  joinW (fun (s_19 : Bool) h =>
  if s_19 = true then
  derefK w0 (fun (a_20 : Addr) =>
  fldK ((some a_20)) 0 (fun (a_21 : Addr) =>
  callK Tryz.prog (.int .i64) F.codec_state_spoil #[(.pointer ((some a_21))), .int .i64 2] (fun (v22 : Int) h =>
  R (.int .i64 v22) h) h))
  else
  fldK r1 1 (fun (a_23 : Addr) =>
  loadK .any h ((some a_23)) (fun (v24 : Value) =>
  callV Tryz.prog .slice v24 #[.slice v15.a v15.n v15.c] (fun (v25 : Sl) h =>
  derefK w0 (fun (a_26 : Addr) =>
  fldK ((some a_26)) 2 (fun (a_27 : Addr) =>
  loadK .slice h ((some a_27)) (fun (v28 : Sl) =>
  if (decide ((IntKind.i64.wrap (((v28.n : Int)) + ((v25.n : Int)))) > 65536)) = true then
  derefK w0 (fun (a_29 : Addr) =>
  fldK ((some a_29)) 0 (fun (a_30 : Addr) =>
  callK Tryz.prog (.int .i64) F.codec_state_spoil #[(.pointer ((some a_30))), .int .i64 3] (fun (v31 : Int) h =>
  R (.int .i64 v31) h) h))
  else
  derefK w0 (fun (a_32 : Addr) =>
  fldK ((some a_32)) 2 (fun (a_33 : Addr) =>
  loadK .slice h ((some a_33)) (fun (v34 : Sl) =>
  opK Tryz.prog .slice (Builtin.append_ #[T.sl_uint8, T.sl_uint8] T.sl_uint8 #[.slice v34.a v34.n v34.c, .slice v25.a v25.n v25.c]) (fun (v35 : Sl) h =>
  derefK w0 (fun (a_36 : Addr) =>
  fldK ((some a_36)) 2 (fun (a_37 : Addr) =>
  storeK h ((some a_37)) (.slice v35.a v35.n v35.c) (fun h =>
  X_13 (IntKind.i64.wrap (s_12 + 1)) h)))) h))))))) h)))
  (fun J_38 =>
  fldK r1 0 (fun (a_39 : Addr) =>
  loadK .any h ((some a_39)) (fun (v40 : Value) =>
  eqK Tryz.prog (binSem .neq T.func175 (.tmp 32) (.const Value.nilFunc) v40 Value.nilFunc) (fun (v41 : Bool) =>
  if v41 = true then
  fldK r1 0 (fun (a_42 : Addr) =>
  loadK .any h ((some a_42)) (fun (v43 : Value) =>
  callV Tryz.prog .bool v43 #[.slice v15.a v15.n v15.c] (fun (v44 : Bool) h =>
  J_38 (!v44) h) h))
  else
  J_38 false h))))) h))))
  else
  J_11 () h) 0 h))))))
def codec_put_byte.ann : Ann := (.seq .leaf (.seq (.seq .leaf (.cond (.seq .leaf .leaf) .leaf)) (.join [] (.seq .leaf (.block (.loop [(22, (.int .i64))] (.seq .leaf (.seq (.cond .leaf .leaf) (.seq (.block (.seq .leaf (.seq (.seq .leaf (.cond .leaf .leaf)) (.seq (.join [(40, .bool)] .leaf (.cond (.seq .leaf .leaf) .leaf)) (.seq .leaf (.seq (.seq .leaf (.cond (.seq .leaf .leaf) .leaf)) .leaf)))))) .leaf)))))) (.seq .leaf .leaf))))
theorem codec_put_byte.eq (w0 : Option Addr) (r1 : Array Value) (l2 : Sl) (R : Value → Heap → Prop) (h : Heap) : codec_put_byte.body w0 r1 l2 R h = evFn Tryz.prog Tryz.f97 codec_put_byte.ann [.pointer w0, .agg r1, .slice l2.a l2.n l2.c] R h := by kernel_rfl
theorem codec_put_byte.calls {w0 : Option Addr} {r1 : Array Value} {l2 : Sl} {R : Value → Heap → Prop} {h : Heap} (H : codec_put_byte.body w0 r1 l2 R h) : HC Tryz.prog F.codec_put_byte #[.pointer w0, .agg r1, .slice l2.a l2.n l2.c] R h :=
  evFn_sound mixed Tryz.func97 (by kernel_rfl) (codec_put_byte.eq w0 r1 l2 R h ▸ H)

/-! slices.Grow[[]byte,byte] -/
def slices_Grow_byte_byte.body (s0 : Sl) (n1 : Int) (R : Value → Heap → Prop) (h : Heap) : Prop :=
  if (decide (n1 < 0)) = true then
  opK Tryz.prog .any (Instr.makeInterface T.string (.string ((⟨#[99, 97, 110, 110, 111, 116, 32, 98, 101, 32, 110, 101, 103, 97, 116, 105, 118, 101]⟩ : ByteArray)))) (fun (v_1 : Value) (h : Heap) =>
  False) h
  else
  if (decide ((IntKind.i64.wrap (n1 - (IntKind.i64.wrap (((s0.c : Int)) - ((s0.n : Int)))))) > 0)) = true then
  sliceK s0 none (some ((s0.c : Int))) none (sizeOfT Tryz.prog T.uint8) (fun (v_2 : Sl) =>
  opK Tryz.prog .slice (Builtin.append_ #[T.sl_uint8, T.int] T.sl_uint8 #[(.slice v_2.a v_2.n v_2.c), (.int .i64 (IntKind.i64.wrap (n1 - (IntKind.i64.wrap (((s0.c : Int)) - ((s0.n : Int)))))))]) (fun (v_3 : Sl) (h : Heap) =>
  sliceK v_3 none (some ((s0.n : Int))) none (sizeOfT Tryz.prog T.uint8) (fun (v_4 : Sl) =>
  R (.slice v_4.a v_4.n v_4.c) h)) h)
  else
  R (.slice s0.a s0.n s0.c) h
def slices_Grow_byte_byte.ann : Ann := (.seq .leaf (.seq (.seq .leaf (.cond .leaf .leaf)) (.seq (.seq .leaf (.seq .leaf (.cond .leaf .leaf))) (.seq .leaf .leaf))))
theorem slices_Grow_byte_byte.eq (s0 : Sl) (n1 : Int) (R : Value → Heap → Prop) (h : Heap) : slices_Grow_byte_byte.body s0 n1 R h = evFn Tryz.prog Tryz.f96 slices_Grow_byte_byte.ann [(.slice s0.a s0.n s0.c), (.int .i64 n1)] R h := by kernel_rfl
theorem slices_Grow_byte_byte.calls {s0 : Sl} {n1 : Int} {R : Value → Heap → Prop} {h : Heap} (H : slices_Grow_byte_byte.body s0 n1 R h) : HC Tryz.prog F.slices_Grow_byte_byte #[(.slice s0.a s0.n s0.c), (.int .i64 n1)] R h :=
  evFn_sound mixed Tryz.func96 (by kernel_rfl) (slices_Grow_byte_byte.eq s0 n1 R h ▸ H)

/-! slices.Concat[[]byte,byte] -/
def slices_Concat_byte_byte.body (slices0 : Sl) (R : Value → Heap → Prop) (h : Heap) : Prop :=
  loopW (fun X_2 (s_1 : Int × Int) (h : Heap) =>
  if (decide (s_1.2 < ((slices0.n : Int)))) = true then
  idxK slices0 s_1.2 (sizeOfT Tryz.prog T.sl_uint8) (fun (a_3 : Addr) =>
  loadK .slice h ((some a_3)) (fun (v4 : Sl) =>
  if (decide ((IntKind.i64.wrap (s_1.1 + ((v4.n : Int)))) < 0)) = true then
  opK Tryz.prog .any (Instr.makeInterface T.string (.string ((⟨#[108, 101, 110, 32, 111, 117, 116, 32, 111, 102, 32, 114, 97, 110, 103, 101]⟩ : ByteArray)))) (fun (v5 : Value) h =>
  False) h
  else
  X_2 (IntKind.i64.wrap (s_1.1 + ((v4.n : Int))), IntKind.i64.wrap (s_1.2 + 1)) h))
  else
  callK Tryz.prog .slice F.slices_Grow_byte_byte #[.slice none 0 0, .int .i64 s_1.1] (fun (v6 : Sl) h =>
  loopW (fun X_8 (s_7 : Sl × Int) (h : Heap) =>
  if (decide (s_7.2 < ((slices0.n : Int)))) = true then
  idxK slices0 s_7.2 (sizeOfT Tryz.prog T.sl_uint8) (fun (a_9 : Addr) =>
  loadK .slice h ((some a_9)) (fun (v10 : Sl) =>
  opK Tryz.prog .slice (Builtin.append_ #[T.sl_uint8, T.sl_uint8] T.sl_uint8 #[.slice s_7.1.a s_7.1.n s_7.1.c, .slice v10.a v10.n v10.c]) (fun (v11 : Sl) h =>
  X_8 (v11, IntKind.i64.wrap (s_7.2 + 1)) h) h))
  else
  R (.slice s_7.1.a s_7.1.n s_7.1.c) h) (v6, 0) h) h) (0, 0) h
def slices_Concat_byte_byte.ann : Ann := (.seq .leaf (.seq .leaf (.seq (.seq .leaf (.block (.loop [(3, (.int .i64)), (11, (.int .i64))] (.seq .leaf (.seq (.cond .leaf .leaf) (.seq (.block (.seq .leaf (.seq .leaf (.seq .leaf (.cond .leaf .leaf))))) .leaf)))))) (.seq .leaf (.seq (.seq .leaf (.block (.loop [(6, .slice), (27, (.int .i64))] (.seq .leaf (.seq (.cond .leaf .leaf) (.seq (.block (.seq .leaf .leaf)) .leaf)))))) (.seq .leaf .leaf))))))
theorem slices_Concat_byte_byte.eq (slices0 : Sl) (R : Value → Heap → Prop) (h : Heap) : slices_Concat_byte_byte.body slices0 R h = evFn Tryz.prog Tryz.f74 slices_Concat_byte_byte.ann [.slice slices0.a slices0.n slices0.c] R h := by kernel_rfl
theorem slices_Concat_byte_byte.calls {slices0 : Sl} {R : Value → Heap → Prop} {h : Heap} (H : slices_Concat_byte_byte.body slices0 R h) : HC Tryz.prog F.slices_Concat_byte_byte #[.slice slices0.a slices0.n slices0.c] R h :=
  evFn_sound mixed Tryz.func74 (by kernel_rfl) (slices_Concat_byte_byte.eq slices0 R h ▸ H)

/-! zugzwang/codec.bytes4 -/
def codec_bytes4.body (n0 : Int) (R : Value → Heap → Prop) (h : Heap) : Prop :=
  shiftK 24
  (shiftK 16
  (shiftK 8
  (newSlK h 4 #[(.int .u8 (IntKind.u8.wrap (Int.fdiv n0 (2 ^ min (Int.toNat 24) (IntKind.bits .i64))))), (.int .u8 (IntKind.u8.wrap (Int.fdiv n0 (2 ^ min (Int.toNat 16) (IntKind.bits .i64))))), (.int .u8 (IntKind.u8.wrap (Int.fdiv n0 (2 ^ min (Int.toNat 8) (IntKind.bits .i64))))), (.int .u8 (IntKind.u8.wrap n0))] T.uint8 (fun (v_1 : Sl) (h : Heap) =>
  R (.slice v_1.a v_1.n v_1.c) h))))
def codec_bytes4.ann : Ann := (.seq .leaf (.seq .leaf .leaf))
theorem codec_bytes4.eq (n0 : Int) (R : Value → Heap → Prop) (h : Heap) : codec_bytes4.body n0 R h = evFn Tryz.prog Tryz.f99 codec_bytes4.ann [(.int .i64 n0)] R h := by kernel_rfl
theorem codec_bytes4.calls {n0 : Int} {R : Value → Heap → Prop} {h : Heap} (H : codec_bytes4.body n0 R h) : HC Tryz.prog F.codec_bytes4 #[(.int .i64 n0)] R h :=
  evFn_sound mixed Tryz.func99 (by kernel_rfl) (codec_bytes4.eq n0 R h ▸ H)

/-! (*zugzwang/codec.Writer).Run$1 -/
def codec_Writer_Run_1.body (b0 : Sl) (R : Value → Heap → Prop) (h : Heap) : Prop :=
  callK Tryz.prog .slice F.codec_bytes4 #[(.int .i64 ((b0.n : Int)))] (fun (v_1 : Sl) (h : Heap) =>
  newSlK h 2 #[(.slice v_1.a v_1.n v_1.c), (.slice b0.a b0.n b0.c)] T.sl_uint8 (fun (v_2 : Sl) (h : Heap) =>
  callK Tryz.prog .slice F.slices_Concat_byte_byte #[(.slice v_2.a v_2.n v_2.c)] (fun (v_3 : Sl) (h : Heap) =>
  R (.slice v_3.a v_3.n v_3.c) h) h)) h
def codec_Writer_Run_1.ann : Ann := (.seq .leaf (.seq .leaf .leaf))
theorem codec_Writer_Run_1.eq (b0 : Sl) (R : Value → Heap → Prop) (h : Heap) : codec_Writer_Run_1.body b0 R h = evFn Tryz.prog Tryz.f98 codec_Writer_Run_1.ann [(.slice b0.a b0.n b0.c)] R h := by kernel_rfl
theorem codec_Writer_Run_1.calls {b0 : Sl} {R : Value → Heap → Prop} {h : Heap} (H : codec_Writer_Run_1.body b0 R h) : HC Tryz.prog F.codec_Writer_Run_1 #[(.slice b0.a b0.n b0.c)] R h :=
  evFn_sound mixed Tryz.func98 (by kernel_rfl) (codec_Writer_Run_1.eq b0 R h ▸ H)

/-! (*zugzwang/codec.Writer).Run -/
def codec_Writer_Run.body (w0 : Option Addr) (l1 : Sl) (R : Value → Heap → Prop) (h : Heap) : Prop :=
  buildK Tryz.prog (Instr.build T.codec_ruleasl_byte #[(1, ((Value.func (.func F.codec_Writer_Run_1) #[] #[])))]) (fun (v_1 : Array Value) =>
  callK Tryz.prog (.int .i64) F.codec_put_byte #[(.pointer w0), (.agg v_1), (.slice l1.a l1.n l1.c)] (fun (v_2 : Int) (h : Heap) =>
  R (.int .i64 v_2) h) h)
def codec_Writer_Run.ann : Ann := (.seq .leaf (.seq .leaf .leaf))
theorem codec_Writer_Run.eq (w0 : Option Addr) (l1 : Sl) (R : Value → Heap → Prop) (h : Heap) : codec_Writer_Run.body w0 l1 R h = evFn Tryz.prog Tryz.f76 codec_Writer_Run.ann [(.pointer w0), (.slice l1.a l1.n l1.c)] R h := by kernel_rfl
theorem codec_Writer_Run.calls {w0 : Option Addr} {l1 : Sl} {R : Value → Heap → Prop} {h : Heap} (H : codec_Writer_Run.body w0 l1 R h) : HC Tryz.prog F.codec_Writer_Run #[(.pointer w0), (.slice l1.a l1.n l1.c)] R h :=
  evFn_sound mixed Tryz.func76 (by kernel_rfl) (codec_Writer_Run.eq w0 l1 R h ▸ H)

/-! zugzwang/codec.put[zugzwang/api.Tag] -/
def codec_put_api_Tag.body (w0 : Option Addr) (r1 : Array Value) (l2 : Sl) (R : Value → Heap → Prop) (h : Heap) : Prop :=
  newK h r1 T.codec_ruleaapi_Tag (fun (r1 : Option Addr) h =>
  if w0.isNone = true then
  R (.int .i64 1) h
  else
  derefK w0 (fun (a_2 : Addr) =>
  fldK ((some a_2)) 0 (fun (a_3 : Addr) =>
  fldK ((some a_3)) 0 (fun (a_4 : Addr) =>
  loadK .bool h ((some a_4)) (fun (v5 : Bool) =>
  if (!v5) = true then
  R (.int .i64 1) h
  else
  joinW (fun (s_6 : Unit) h =>
  derefK w0 (fun (a_7 : Addr) =>
  fldK ((some a_7)) 0 (fun (a_8 : Addr) =>
  fldK ((some a_8)) 1 (fun (a_9 : Addr) =>
  loadK (.int .i64) h ((some a_9)) (fun (v10 : Int) =>
  R (.int .i64 v10) h)))))
  (fun J_11 =>
  loopW (fun X_13 (s_12 : Int) (h : Heap) =>
  if (decide (s_12 < ((l2.n : Int)))) = true then
  idxK l2 s_12 (sizeOfT Tryz.prog T.api_Tag) (fun (a_14 : Addr) =>
  loadAggK (sizeOfT Tryz.prog T.api_Tag) h ((some a_14)) (fun (v15 : Array Value) =>
  newK h (zerosOf Tryz.prog T.api_Tag) T.api_Tag (fun (x_16 : Option Addr) h =>
  storeAggK (sizeOfT Tryz.prog T.api_Tag) h x_16 v15 (fun h =>
  derefK w0 (fun (a_17 : Addr) =>
  fldK ((some a_17)) 0 (fun (a_18 : Addr) =>
  callK Tryz.prog .bool F.codec_state_sound #[(.pointer ((some a_18)))] (fun (v19 : Bool) h =>
  if (!v19) = true then
  J_11 () h
  else
  joinW (fun (s_20 : Bool) h =>
  if s_20 = true then
  derefK w0 (fun (a_21 : Addr) =>
  fldK ((some a_21)) 0 (fun (a_22 : Addr) =>
  callK Tryz.prog (.int .i64) F.codec_state_spoil #[(.pointer ((some a_22))), .int .i64 2] (fun (v23 : Int) h =>
  R (.int .i64 v23) h) h))
  else
  fldK r1 1 (fun (a_24 : Addr) =>
  loadK .any h ((some a_24)) (fun (v25 : Value) =>
  loadAggK (sizeOfT Tryz.prog T.api_Tag) h x_16 (fun (v26 : Array Value) =>
  callV Tryz.prog .slice v25 #[.agg v26] (fun (v27 : Sl) h =>
  derefK w0 (fun (a_28 : Addr) =>
  fldK ((some a_28)) 2 (fun (a_29 : Addr) =>
  loadK .slice h ((some a_29)) (fun (v30 : Sl) =>
  if (decide ((IntKind.i64.wrap (((v30.n : Int)) + ((v27.n : Int)))) > 65536)) = true then
  derefK w0 (fun (a_31 : Addr) =>
  fldK ((some a_31)) 0 (fun (a_32 : Addr) =>
  callK Tryz.prog (.int .i64) F.codec_state_spoil #[(.pointer ((some a_32))), .int .i64 3] (fun (v33 : Int) h =>
  R (.int .i64 v33) h) h))
  else
  derefK w0 (fun (a_34 : Addr) =>
  fldK ((some a_34)) 2 (fun (a_35 : Addr) =>
  loadK .slice h ((some a_35)) (fun (v36 : Sl) =>
  opK Tryz.prog .slice (Builtin.append_ #[T.sl_uint8, T.sl_uint8] T.sl_uint8 #[.slice v36.a v36.n v36.c, .slice v27.a v27.n v27.c]) (fun (v37 : Sl) h =>
  derefK w0 (fun (a_38 : Addr) =>
  fldK ((some a_38)) 2 (fun (a_39 : Addr) =>
  storeK h ((some a_39)) (.slice v37.a v37.n v37.c) (fun h =>
  X_13 (IntKind.i64.wrap (s_12 + 1)) h)))) h))))))) h))))
  (fun J_40 =>
  fldK r1 0 (fun (a_41 : Addr) =>
  loadK .any h ((some a_41)) (fun (v42 : Value) =>
  eqK Tryz.prog (binSem .neq T.func180 (.tmp 32) (.const Value.nilFunc) v42 Value.nilFunc) (fun (v43 : Bool) =>
  if v43 = true then
  fldK r1 0 (fun (a_44 : Addr) =>
  loadK .any h ((some a_44)) (fun (v45 : Value) =>
  loadAggK (sizeOfT Tryz.prog T.api_Tag) h x_16 (fun (v46 : Array Value) =>
  callV Tryz.prog .bool v45 #[.agg v46] (fun (v47 : Bool) h =>
  J_40 (!v47) h) h)))
  else
  J_40 false h))))) h))))))
  else
  J_11 () h) 0 h))))))
def codec_put_api_Tag.ann : Ann := (.seq .leaf (.seq (.seq .leaf (.cond (.seq .leaf .leaf) .leaf)) (.join [] (.seq .leaf (.block (.loop [(22, (.int .i64))] (.seq .leaf (.seq (.cond .leaf .leaf) (.seq (.block (.seq .leaf (.seq (.seq .leaf (.cond .leaf .leaf)) (.seq (.join [(40, .bool)] .leaf (.cond (.seq .leaf .leaf) .leaf)) (.seq .leaf (.seq (.seq .leaf (.cond (.seq .leaf .leaf) .leaf)) .leaf)))))) .leaf)))))) (.seq .leaf .leaf))))
theorem codec_put_api_Tag.eq (w0 : Option Addr) (r1 : Array Value) (l2 : Sl) (R : Value → Heap → Prop) (h : Heap) : codec_put_api_Tag.body w0 r1 l2 R h = evFn Tryz.prog Tryz.f100 codec_put_api_Tag.ann [.pointer w0, .agg r1, .slice l2.a l2.n l2.c] R h := by kernel_rfl
theorem codec_put_api_Tag.calls {w0 : Option Addr} {r1 : Array Value} {l2 : Sl} {R : Value → Heap → Prop} {h : Heap} (H : codec_put_api_Tag.body w0 r1 l2 R h) : HC Tryz.prog F.codec_put_api_Tag #[.pointer w0, .agg r1, .slice l2.a l2.n l2.c] R h :=
  evFn_sound mixed Tryz.func100 (by kernel_rfl) (codec_put_api_Tag.eq w0 r1 l2 R h ▸ H)

/-! (*zugzwang/codec.Writer).Tag$1 -/
def codec_Writer_Tag_1.body (t0 : Array Value) (R : Value → Heap → Prop) (h : Heap) : Prop :=
  newK h t0 T.api_Tag (fun (t_1 : Option Addr) (h : Heap) =>
  sliceArrK t_1 32 none none none (sizeOfT Tryz.prog T.uint8) (fun (v_2 : Sl) =>
  R (.slice v_2.a v_2.n v_2.c) h))
def codec_Writer_Tag_1.ann : Ann := (.seq .leaf (.seq .leaf .leaf))
theorem codec_Writer_Tag_1.eq (t0 : Array Value) (R : Value → Heap → Prop) (h : Heap) : codec_Writer_Tag_1.body t0 R h = evFn Tryz.prog Tryz.f101 codec_Writer_Tag_1.ann [(.agg t0)] R h := by kernel_rfl
theorem codec_Writer_Tag_1.calls {t0 : Array Value} {R : Value → Heap → Prop} {h : Heap} (H : codec_Writer_Tag_1.body t0 R h) : HC Tryz.prog F.codec_Writer_Tag_1 #[(.agg t0)] R h :=
  evFn_sound mixed Tryz.func101 (by kernel_rfl) (codec_Writer_Tag_1.eq t0 R h ▸ H)

/-! (*zugzwang/codec.Writer).Tag -/
def codec_Writer_Tag.body (w0 : Option Addr) (l1 : Sl) (R : Value → Heap → Prop) (h : Heap) : Prop :=
  buildK Tryz.prog (Instr.build T.codec_ruleaapi_Tag #[(1, ((Value.func (.func F.codec_Writer_Tag_1) #[] #[])))]) (fun (v_1 : Array Value) =>
  callK Tryz.prog (.int .i64) F.codec_put_api_Tag #[(.pointer w0), (.agg v_1), (.slice l1.a l1.n l1.c)] (fun (v_2 : Int) (h : Heap) =>
  R (.int .i64 v_2) h) h)
def codec_Writer_Tag.ann : Ann := (.seq .leaf (.seq .leaf .leaf))
theorem codec_Writer_Tag.eq (w0 : Option Addr) (l1 : Sl) (R : Value → Heap → Prop) (h : Heap) : codec_Writer_Tag.body w0 l1 R h = evFn Tryz.prog Tryz.f77 codec_Writer_Tag.ann [(.pointer w0), (.slice l1.a l1.n l1.c)] R h := by kernel_rfl
theorem codec_Writer_Tag.calls {w0 : Option Addr} {l1 : Sl} {R : Value → Heap → Prop} {h : Heap} (H : codec_Writer_Tag.body w0 l1 R h) : HC Tryz.prog F.codec_Writer_Tag #[(.pointer w0), (.slice l1.a l1.n l1.c)] R h :=
  evFn_sound mixed Tryz.func77 (by kernel_rfl) (codec_Writer_Tag.eq w0 l1 R h ▸ H)

/-! (*zugzwang/codec.Writer).Out -/
def codec_Writer_Out.body (w0 : Option Addr) (R : Value → Heap → Prop) (h : Heap) : Prop :=
  joinW (fun (s_1 : Bool) (h : Heap) =>
  if s_1 = true then
  R (.tuple #[(.slice none 0 0), (.int .i64 1)]) h
  else
  derefK w0 (fun (a_2 : Addr) =>
  fldK ((some a_2)) 0 (fun (a_3 : Addr) =>
  callK Tryz.prog .bool F.codec_state_sound #[(.pointer ((some a_3)))] (fun (v_4 : Bool) (h : Heap) =>
  if (!v_4) = true then
  derefK w0 (fun (a_5 : Addr) =>
  fldK ((some a_5)) 0 (fun (a_6 : Addr) =>
  fldK ((some a_6)) 1 (fun (a_7 : Addr) =>
  loadK (.int .i64) h ((some a_7)) (fun (v_8 : Int) =>
  R (.tuple #[(.slice none 0 0), (.int .i64 v_8)]) h))))
  else
  derefK w0 (fun (a_9 : Addr) =>
  fldK ((some a_9)) 2 (fun (a_10 : Addr) =>
  loadK .slice h ((some a_10)) (fun (v_11 : Sl) =>
  callK Tryz.prog .slice F.slices_Clone_byte_byte #[(.slice v_11.a v_11.n v_11.c)] (fun (v_12 : Sl) (h : Heap) =>
  R (.tuple #[(.slice v_12.a v_12.n v_12.c), (.int .i64 0)]) h) h)))) h)))
  (fun J_13 =>
  if w0.isNone = true then
  J_13 true h
  else
  derefK w0 (fun (a_14 : Addr) =>
  fldK ((some a_14)) 0 (fun (a_15 : Addr) =>
  fldK ((some a_15)) 0 (fun (a_16 : Addr) =>
  loadK .bool h ((some a_16)) (fun (v_17 : Bool) =>
  J_13 (!v_17) h)))))
def codec_Writer_Out.ann : Ann := (.seq .leaf (.seq (.block (.join [(4, .bool)] .leaf (.cond (.seq .leaf .leaf) (.seq .leaf (.cond (.seq .leaf .leaf) .leaf))))) (.seq .leaf .leaf)))
theorem codec_Writer_Out.eq (w0 : Option Addr) (R : Value → Heap → Prop) (h : Heap) : codec_Writer_Out.body w0 R h = evFn Tryz.prog Tryz.f78 codec_Writer_Out.ann [(.pointer w0)] R h := by kernel_rfl
theorem codec_Writer_Out.calls {w0 : Option Addr} {R : Value → Heap → Prop} {h : Heap} (H : codec_Writer_Out.body w0 R h) : HC Tryz.prog F.codec_Writer_Out #[(.pointer w0)] R h :=
  evFn_sound mixed Tryz.func78 (by kernel_rfl) (codec_Writer_Out.eq w0 R h ▸ H)

/-! (zugzwang/commit.text).rows -/
def commit_text_rows.body (t0 : Array Value) (nonce1 : Array Value) (rows2 : Sl) (R : Value → Heap → Prop) (h : Heap) : Prop :=
  newK h t0 T.commit_text (fun (t_1 : Option Addr) (h : Heap) =>
  newK h nonce1 T.api_Tag (fun (nonce_2 : Option Addr) (h : Heap) =>
  fldK t_1 0 (fun (a_3 : Addr) =>
  loadK .ptr h ((some a_3)) (fun (v_4 : Option Addr) =>
  callK Tryz.prog (.int .i64) F.codec_Writer_Run #[(.pointer v_4), (.slice rows2.a rows2.n rows2.c)] (fun (v_5 : Int) (h : Heap) =>
  fldK t_1 0 (fun (a_6 : Addr) =>
  loadK .ptr h ((some a_6)) (fun (v_7 : Option Addr) =>
  loadAggK (sizeOfT Tryz.prog T.api_Tag) h nonce_2 (fun (v_8 : Array Value) =>
  opK Tryz.prog .slice (Instr.buildSlice T.sl_api_Tag 1 #[(0, (.agg v_8))]) (fun (v_9 : Sl) (h : Heap) =>
  callK Tryz.prog (.int .i64) F.codec_Writer_Tag #[(.pointer v_7), (.slice v_9.a v_9.n v_9.c)] (fun (v_10 : Int) (h : Heap) =>
  fldK t_1 0 (fun (a_11 : Addr) =>
  loadK .ptr h ((some a_11)) (fun (v_12 : Option Addr) =>
  callK Tryz.prog (Kd.pair .slice (.int .i64)) F.codec_Writer_Out #[(.pointer v_12)] (fun (v_13 : Sl × Int) (h : Heap) =>
  R (.tuple #[(.slice v_13.1.a v_13.1.n v_13.1.c), (.int .i64 v_13.2)]) h) h))) h) h)))) h))))
def commit_text_rows.ann : Ann := (.seq .leaf (.seq .leaf (.seq .leaf (.seq .leaf .leaf))))
theorem commit_text_rows.eq (t0 : Array Value) (nonce1 : Array Value) (rows2 : Sl) (R : Value → Heap → Prop) (h : Heap) : commit_text_rows.body t0 nonce1 rows2 R h = evFn Tryz.prog Tryz.f66 commit_text_rows.ann [(.agg t0), (.agg nonce1), (.slice rows2.a rows2.n rows2.c)] R h := by kernel_rfl
theorem commit_text_rows.calls {t0 : Array Value} {nonce1 : Array Value} {rows2 : Sl} {R : Value → Heap → Prop} {h : Heap} (H : commit_text_rows.body t0 nonce1 rows2 R h) : HC Tryz.prog F.commit_text_rows #[(.agg t0), (.agg nonce1), (.slice rows2.a rows2.n rows2.c)] R h :=
  evFn_sound mixed Tryz.func66 (by kernel_rfl) (commit_text_rows.eq t0 nonce1 rows2 R h ▸ H)

/-! zugzwang/digest.begun -/
def digest_begun.body  (R : Value → Heap → Prop) (h : Heap) : Prop :=
  newK h (zerosOf Tryz.prog T.digest_state) T.digest_state (fun (v_1 : Option Addr) (h : Heap) =>
  buildK Tryz.prog (Instr.build T.digest_state #[(0, (.int .u32 1779033703)), (1, (.int .u32 3144134277)), (2, (.int .u32 1013904242)), (3, (.int .u32 2773480762)), (4, (.int .u32 1359893119)), (5, (.int .u32 2600822924)), (6, (.int .u32 528734635)), (7, (.int .u32 1541459225))]) (fun (v_2 : Array Value) =>
  storeAggK (sizeOfT Tryz.prog T.digest_state) h v_1 v_2 (fun (h : Heap) =>
  quietK Tryz.prog .agg (Instr.loadAt T.digest_state (.pointer v_1)) (fun (r_3 : Array Value) =>
  R (.agg r_3) h) h)))
def digest_begun.ann : Ann := (.seq .leaf (.seq .leaf .leaf))
theorem digest_begun.eq  (R : Value → Heap → Prop) (h : Heap) : digest_begun.body  R h = evFn Tryz.prog Tryz.f70 digest_begun.ann [] R h := by kernel_rfl
theorem digest_begun.calls  {R : Value → Heap → Prop} {h : Heap} (H : digest_begun.body  R h) : HC Tryz.prog F.digest_begun #[] R h :=
  evFn_sound mixed Tryz.func70 (by kernel_rfl) (digest_begun.eq  R h ▸ H)

/-! zugzwang/digest.New -/
def digest_New.body  (R : Value → Heap → Prop) (h : Heap) : Prop :=
  callK Tryz.prog .agg F.digest_begun #[] (fun (v_1 : Array Value) (h : Heap) =>
  buildK Tryz.prog (Instr.build T.digest_Hasher #[(0, (.agg v_1)), (3, (.bool true))]) (fun (v_2 : Array Value) =>
  newK h v_2 T.digest_Hasher (fun (v_3 : Option Addr) (h : Heap) =>
  R (.pointer v_3) h))) h
def digest_New.ann : Ann := (.seq .leaf (.seq .leaf .leaf))
theorem digest_New.eq  (R : Value → Heap → Prop) (h : Heap) : digest_New.body  R h = evFn Tryz.prog Tryz.f56 digest_New.ann [] R h := by kernel_rfl
theorem digest_New.calls  {R : Value → Heap → Prop} {h : Heap} (H : digest_New.body  R h) : HC Tryz.prog F.digest_New #[] R h :=
  evFn_sound mixed Tryz.func56 (by kernel_rfl) (digest_New.eq  R h ▸ H)

/-! (*zugzwang/bits.row).take -/
def bits_row_take.body (r0 : Option Addr) (R : Value → Heap → Prop) (h : Heap) : Prop :=
  derefK r0 (fun (a_1 : Addr) =>
  fldK ((some a_1)) 0 (fun (a_2 : Addr) =>
  loadK .slice h ((some a_2)) (fun (v3 : Sl) =>
  idxK v3 0 (sizeOfT Tryz.prog T.uint8) (fun (a_4 : Addr) =>
  loadK (.int .u8) h ((some a_4)) (fun (v5 : Int) =>
  shiftK 24
  (derefK r0 (fun (a_6 : Addr) =>
  fldK ((some a_6)) 0 (fun (a_7 : Addr) =>
  loadK .slice h ((some a_7)) (fun (v8 : Sl) =>
  idxK v8 1 (sizeOfT Tryz.prog T.uint8) (fun (a_9 : Addr) =>
  loadK (.int .u8) h ((some a_9)) (fun (v10 : Int) =>
  shiftK 16
  (derefK r0 (fun (a_11 : Addr) =>
  fldK ((some a_11)) 0 (fun (a_12 : Addr) =>
  loadK .slice h ((some a_12)) (fun (v13 : Sl) =>
  idxK v13 2 (sizeOfT Tryz.prog T.uint8) (fun (a_14 : Addr) =>
  loadK (.int .u8) h ((some a_14)) (fun (v15 : Int) =>
  shiftK 8
  (derefK r0 (fun (a_16 : Addr) =>
  fldK ((some a_16)) 0 (fun (a_17 : Addr) =>
  loadK .slice h ((some a_17)) (fun (v18 : Sl) =>
  idxK v18 3 (sizeOfT Tryz.prog T.uint8) (fun (a_19 : Addr) =>
  loadK (.int .u8) h ((some a_19)) (fun (v20 : Int) =>
  derefK r0 (fun (a_21 : Addr) =>
  fldK ((some a_21)) 0 (fun (a_22 : Addr) =>
  loadK .slice h ((some a_22)) (fun (v23 : Sl) =>
  sliceK v23 (some 4) none none (sizeOfT Tryz.prog T.uint8) (fun (v24 : Sl) =>
  derefK r0 (fun (a_25 : Addr) =>
  fldK ((some a_25)) 0 (fun (a_26 : Addr) =>
  storeK h ((some a_26)) (.slice v24.a v24.n v24.c) (fun h =>
  R (.int .u32 (IntKind.u32.wrap (BitVec.ofInt (IntKind.bits .u32) (IntKind.u32.wrap (BitVec.ofInt (IntKind.bits .u32) (IntKind.u32.wrap (BitVec.ofInt (IntKind.bits .u32) (IntKind.u32.wrap ((IntKind.u32.wrap v5) * 2 ^ min (Int.toNat 24) (IntKind.bits .u32))) ||| BitVec.ofInt (IntKind.bits .u32) (IntKind.u32.wrap ((IntKind.u32.wrap v10) * 2 ^ min (Int.toNat 16) (IntKind.bits .u32)))).toNat) ||| BitVec.ofInt (IntKind.bits .u32) (IntKind.u32.wrap ((IntKind.u32.wrap v15) * 2 ^ min (Int.toNat 8) (IntKind.bits .u32)))).toNat) ||| BitVec.ofInt (IntKind.bits .u32) (IntKind.u32.wrap v20)).toNat)) h))))))))))))))))))))))))))))))
def bits_row_take.ann : Ann := (.seq .leaf (.seq .leaf (.seq .leaf (.seq .leaf .leaf))))
theorem bits_row_take.eq (r0 : Option Addr) (R : Value → Heap → Prop) (h : Heap) : bits_row_take.body r0 R h = evFn Tryz.prog Tryz.f109 bits_row_take.ann [.pointer r0] R h := by kernel_rfl
theorem bits_row_take.calls {r0 : Option Addr} {R : Value → Heap → Prop} {h : Heap} (H : bits_row_take.body r0 R h) : HC Tryz.prog F.bits_row_take #[.pointer r0] R h :=
  evFn_sound mixed Tryz.func109 (by kernel_rfl) (bits_row_take.eq r0 R h ▸ H)

/-! zugzwang/bits.Words -/
def bits_Words.body (b0 : Sl) (R : Value → Heap → Prop) (h : Heap) : Prop :=
  divK 4
  (if ((Int.tmod ((b0.n : Int)) 4) != 0) = true then
  R (.tuple #[.slice none 0 0, .int .i64 4]) h
  else
  callK Tryz.prog .slice F.slices_Clone_byte_byte #[.slice b0.a b0.n b0.c] (fun (v1 : Sl) h =>
  buildK Tryz.prog (Instr.build T.bits_row #[(0, (.slice v1.a v1.n v1.c))]) (fun (v2 : Array Value) =>
  buildK Tryz.prog (Instr.build T.bits_reader #[(0, (.agg v2))]) (fun (v3 : Array Value) =>
  newK h (zerosOf Tryz.prog T.bits_reader) T.bits_reader (fun (r4 : Option Addr) h =>
  storeAggK (sizeOfT Tryz.prog T.bits_reader) h r4 v3 (fun h =>
  divK 4
  (loopW (fun X_6 (s_5 : Int) (h : Heap) =>
  if (decide (s_5 < (IntKind.i64.wrap (Int.tdiv ((b0.n : Int)) 4)))) = true then
  fldK r4 1 (fun (a_7 : Addr) =>
  fldK r4 0 (fun (a_8 : Addr) =>
  loadK .slice h ((some a_7)) (fun (v9 : Sl) =>
  callK Tryz.prog (.int .u32) F.bits_row_take #[(.pointer ((some a_8)))] (fun (v10 : Int) h =>
  stillK .slice h ((some a_7)) v9 ∧
  newSlK h 1 #[.int .u32 v10] T.uint32 (fun v11 h =>
  opK Tryz.prog .slice (Builtin.append_ #[T.sl_uint32, T.sl_uint32] T.sl_uint32 #[.slice v9.a v9.n v9.c, .slice v11.a v11.n v11.c]) (fun (v12 : Sl) h =>
  fldK r4 1 (fun (a_13 : Addr) =>
  storeK h ((some a_13)) (.slice v12.a v12.n v12.c) (fun h =>
  X_6 (IntKind.i64.wrap (s_5 + 1)) h))) h)) h)))
  else
  fldK r4 1 (fun (a_14 : Addr) =>
  loadK .slice h ((some a_14)) (fun (v15 : Sl) =>
  R (.tuple #[.slice v15.a v15.n v15.c, .int .i64 0]) h))) 0 h)))))) h)
def bits_Words.ann : Ann := (.seq .leaf (.seq (.seq .leaf (.cond (.seq .leaf .leaf) .leaf)) (.seq .leaf (.seq (.seq .leaf (.block (.loop [(16, (.int .i64))] (.seq .leaf (.seq (.cond .leaf .leaf) (.seq (.block (.any (.loc 0 (.loc 2 (.st 1 224 (.last 3 (.last 4 (.last 5 (.loc 6 (.last 7 .done)))))))))) .leaf)))))) (.seq .leaf .leaf)))))
theorem bits_Words.eq (b0 : Sl) (R : Value → Heap → Prop) (h : Heap) : bits_Words.body b0 R h = evFn Tryz.prog Tryz.f89 bits_Words.ann [.slice b0.a b0.n b0.c] R h := by kernel_rfl
theorem bits_Words.calls {b0 : Sl} {R : Value → Heap → Prop} {h : Heap} (H : bits_Words.body b0 R h) : HC Tryz.prog F.bits_Words #[.slice b0.a b0.n b0.c] R h :=
  evFn_sound mixed Tryz.func89 (by kernel_rfl) (bits_Words.eq b0 R h ▸ H)

/-! math/bits.RotateLeft32 -/
def math_bits_RotateLeft32.body (x0 : Int) (k1 : Int) (R : Value → Heap → Prop) (h : Heap) : Prop :=
  shiftK (IntKind.u64.wrap (BitVec.ofInt (IntKind.bits .u64) (IntKind.u64.wrap k1) &&& BitVec.ofInt (IntKind.bits .u64) 31).toNat)
  (shiftK (IntKind.u64.wrap (32 - (IntKind.u64.wrap (BitVec.ofInt (IntKind.bits .u64) (IntKind.u64.wrap k1) &&& BitVec.ofInt (IntKind.bits .u64) 31).toNat)))
  (R (.int .u32 (IntKind.u32.wrap (BitVec.ofInt (IntKind.bits .u32) (IntKind.u32.wrap (x0 * 2 ^ min (Int.toNat (IntKind.u64.wrap (BitVec.ofInt (IntKind.bits .u64) (IntKind.u64.wrap k1) &&& BitVec.ofInt (IntKind.bits .u64) 31).toNat)) (IntKind.bits .u32))) ||| BitVec.ofInt (IntKind.bits .u32) (Int.fdiv x0 (2 ^ min (Int.toNat (IntKind.u64.wrap (32 - (IntKind.u64.wrap (BitVec.ofInt (IntKind.bits .u64) (IntKind.u64.wrap k1) &&& BitVec.ofInt (IntKind.bits .u64) 31).toNat)))) (IntKind.bits .u32)))).toNat)) h))
def math_bits_RotateLeft32.ann : Ann := (.seq .leaf (.seq .leaf (.seq .leaf .leaf)))
theorem math_bits_RotateLeft32.eq (x0 : Int) (k1 : Int) (R : Value → Heap → Prop) (h : Heap) : math_bits_RotateLeft32.body x0 k1 R h = evFn Tryz.prog Tryz.f114 math_bits_RotateLeft32.ann [(.int .u32 x0), (.int .i64 k1)] R h := by kernel_rfl
theorem math_bits_RotateLeft32.calls {x0 : Int} {k1 : Int} {R : Value → Heap → Prop} {h : Heap} (H : math_bits_RotateLeft32.body x0 k1 R h) : HC Tryz.prog F.math_bits_RotateLeft32 #[(.int .u32 x0), (.int .i64 k1)] R h :=
  evFn_sound mixed Tryz.func114 (by kernel_rfl) (math_bits_RotateLeft32.eq x0 k1 R h ▸ H)

/-! zugzwang/bits.Turn -/
def bits_Turn.body (x0 : Int) (n1 : Int) (R : Value → Heap → Prop) (h : Heap) : Prop :=
  divK 32
  (callK Tryz.prog (.int .u32) F.math_bits_RotateLeft32 #[(.int .u32 x0), (.int .i64 (IntKind.i64.wrap (0 - (Int.tmod n1 32))))] (fun (v_1 : Int) (h : Heap) =>
  R (.int .u32 v_1) h) h)
def bits_Turn.ann : Ann := (.seq .leaf (.seq .leaf .leaf))
theorem bits_Turn.eq (x0 : Int) (n1 : Int) (R : Value → Heap → Prop) (h : Heap) : bits_Turn.body x0 n1 R h = evFn Tryz.prog Tryz.f110 bits_Turn.ann [(.int .u32 x0), (.int .i64 n1)] R h := by kernel_rfl
theorem bits_Turn.calls {x0 : Int} {n1 : Int} {R : Value → Heap → Prop} {h : Heap} (H : bits_Turn.body x0 n1 R h) : HC Tryz.prog F.bits_Turn #[(.int .u32 x0), (.int .i64 n1)] R h :=
  evFn_sound mixed Tryz.func110 (by kernel_rfl) (bits_Turn.eq x0 n1 R h ▸ H)

/-! zugzwang/bits.Mix -/
def bits_Mix.body (x0 : Int) (turns1 : Sl) (R : Value → Heap → Prop) (h : Heap) : Prop :=
  loopW (fun X_2 (s_1 : Int × Int) (h : Heap) =>
  if (decide (s_1.2 < ((turns1.n : Int)))) = true then
  idxK turns1 s_1.2 (sizeOfT Tryz.prog T.int) (fun (a_3 : Addr) =>
  loadK (.int .i64) h ((some a_3)) (fun (v_4 : Int) =>
  callK Tryz.prog (.int .u32) F.bits_Turn #[(.int .u32 x0), (.int .i64 v_4)] (fun (v_5 : Int) (h : Heap) =>
  X_2 (IntKind.u32.wrap (BitVec.ofInt (IntKind.bits .u32) s_1.1 ^^^ BitVec.ofInt (IntKind.bits .u32) v_5).toNat, IntKind.i64.wrap (s_1.2 + 1)) h) h))
  else
  R (.int .u32 s_1.1) h) (0, 0) h
def bits_Mix.ann : Ann := (.seq .leaf (.seq (.seq .leaf (.block (.loop [(4, (.int .u32)), (9, (.int .i64))] (.seq .leaf (.seq (.cond .leaf .leaf) (.seq (.block (.seq .leaf .leaf)) .leaf)))))) (.seq .leaf .leaf)))
theorem bits_Mix.eq (x0 : Int) (turns1 : Sl) (R : Value → Heap → Prop) (h : Heap) : bits_Mix.body x0 turns1 R h = evFn Tryz.prog Tryz.f90 bits_Mix.ann [(.int .u32 x0), (.slice turns1.a turns1.n turns1.c)] R h := by kernel_rfl
theorem bits_Mix.calls {x0 : Int} {turns1 : Sl} {R : Value → Heap → Prop} {h : Heap} (H : bits_Mix.body x0 turns1 R h) : HC Tryz.prog F.bits_Mix #[(.int .u32 x0), (.slice turns1.a turns1.n turns1.c)] R h :=
  evFn_sound mixed Tryz.func90 (by kernel_rfl) (bits_Mix.eq x0 turns1 R h ▸ H)

/-! zugzwang/bits.Shift -/
def bits_Shift.body (x0 : Int) (n1 : Int) (R : Value → Heap → Prop) (h : Heap) : Prop :=
  shiftK (if n1 < 0 then 0 else n1)
  (R (.int .u32 (Int.fdiv x0 (2 ^ min (Int.toNat (if n1 < 0 then 0 else n1)) (IntKind.bits .u32)))) h)
def bits_Shift.ann : Ann := (.seq .leaf (.seq .leaf .leaf))
theorem bits_Shift.eq (x0 : Int) (n1 : Int) (R : Value → Heap → Prop) (h : Heap) : bits_Shift.body x0 n1 R h = evFn Tryz.prog Tryz.f91 bits_Shift.ann [(.int .u32 x0), (.int .i64 n1)] R h := by kernel_rfl
theorem bits_Shift.calls {x0 : Int} {n1 : Int} {R : Value → Heap → Prop} {h : Heap} (H : bits_Shift.body x0 n1 R h) : HC Tryz.prog F.bits_Shift #[(.int .u32 x0), (.int .i64 n1)] R h :=
  evFn_sound mixed Tryz.func91 (by kernel_rfl) (bits_Shift.eq x0 n1 R h ▸ H)

/-! zugzwang/bits.Sum -/
def bits_Sum.body (words0 : Sl) (R : Value → Heap → Prop) (h : Heap) : Prop :=
  loopW (fun X_2 (s_1 : Int × Int) (h : Heap) =>
  if (decide (s_1.2 < ((words0.n : Int)))) = true then
  idxK words0 s_1.2 (sizeOfT Tryz.prog T.uint32) (fun (a_3 : Addr) =>
  loadK (.int .u32) h ((some a_3)) (fun (v_4 : Int) =>
  X_2 (IntKind.u32.wrap (s_1.1 + v_4), IntKind.i64.wrap (s_1.2 + 1)) h))
  else
  R (.int .u32 s_1.1) h) (0, 0) h
def bits_Sum.ann : Ann := (.seq .leaf (.seq (.seq .leaf (.block (.loop [(2, (.int .u32)), (7, (.int .i64))] (.seq .leaf (.seq (.cond .leaf .leaf) (.seq (.block (.seq .leaf .leaf)) .leaf)))))) (.seq .leaf .leaf)))
theorem bits_Sum.eq (words0 : Sl) (R : Value → Heap → Prop) (h : Heap) : bits_Sum.body words0 R h = evFn Tryz.prog Tryz.f92 bits_Sum.ann [(.slice words0.a words0.n words0.c)] R h := by kernel_rfl
theorem bits_Sum.calls {words0 : Sl} {R : Value → Heap → Prop} {h : Heap} (H : bits_Sum.body words0 R h) : HC Tryz.prog F.bits_Sum #[(.slice words0.a words0.n words0.c)] R h :=
  evFn_sound mixed Tryz.func92 (by kernel_rfl) (bits_Sum.eq words0 R h ▸ H)

/-! zugzwang/digest.constants -/
def digest_constants.body  (R : Value → Heap → Prop) (h : Heap) : Prop :=
  newK h (zerosOf Tryz.prog T.a64_uint32) T.a64_uint32 (fun (v1 : Option Addr) h =>
  buildK Tryz.prog (Instr.build T.a64_uint32 #[(0, (.int .u32 1116352408)), (1, (.int .u32 1899447441)), (2, (.int .u32 3049323471)), (3, (.int .u32 3921009573)), (4, (.int .u32 961987163)), (5, (.int .u32 1508970993)), (6, (.int .u32 2453635748)), (7, (.int .u32 2870763221)), (8, (.int .u32 3624381080)), (9, (.int .u32 310598401)), (10, (.int .u32 607225278)), (11, (.int .u32 1426881987)), (12, (.int .u32 1925078388)), (13, (.int .u32 2162078206)), (14, (.int .u32 2614888103)), (15, (.int .u32 3248222580)), (16, (.int .u32 3835390401)), (17, (.int .u32 4022224774)), (18, (.int .u32 264347078)), (19, (.int .u32 604807628)), (20, (.int .u32 770255983)), (21, (.int .u32 1249150122)), (22, (.int .u32 1555081692)), (23, (.int .u32 1996064986)), (24, (.int .u32 2554220882)), (25, (.int .u32 2821834349)), (26, (.int .u32 2952996808)), (27, (.int .u32 3210313671)), (28, (.int .u32 3336571891)), (29, (.int .u32 3584528711)), (30, (.int .u32 113926993)), (31, (.int .u32 338241895)), (32, (.int .u32 666307205)), (33, (.int .u32 773529912)), (34, (.int .u32 1294757372)), (35, (.int .u32 1396182291)), (36, (.int .u32 1695183700)), (37, (.int .u32 1986661051)), (38, (.int .u32 2177026350)), (39, (.int .u32 2456956037)), (40, (.int .u32 2730485921)), (41, (.int .u32 2820302411)), (42, (.int .u32 3259730800)), (43, (.int .u32 3345764771)), (44, (.int .u32 3516065817)), (45, (.int .u32 3600352804)), (46, (.int .u32 4094571909)), (47, (.int .u32 275423344)), (48, (.int .u32 430227734)), (49, (.int .u32 506948616)), (50, (.int .u32 659060556)), (51, (.int .u32 883997877)), (52, (.int .u32 958139571)), (53, (.int .u32 1322822218)), (54, (.int .u32 1537002063)), (55, (.int .u32 1747873779)), (56, (.int .u32 1955562222)), (57, (.int .u32 2024104815)), (58, (.int .u32 2227730452)), (59, (.int .u32 2361852424)), (60, (.int .u32 2428436474)), (61, (.int .u32 2756734187)), (62, (.int .u32 3204031479)), (63, (.int .u32 3329325298))]) (fun (v2 : Array Value) =>
  storeAggK (sizeOfT Tryz.prog T.a64_uint32) h v1 v2 (fun h =>
  quietK Tryz.prog .agg (Instr.loadAt T.a64_uint32 (.pointer v1)) (fun r3 =>
  R (.agg r3) h) h)))
def digest_constants.ann : Ann := (.seq .leaf (.seq .leaf .leaf))
theorem digest_constants.eq  (R : Value → Heap → Prop) (h : Heap) : digest_constants.body  R h = evFn Tryz.prog Tryz.f93 digest_constants.ann [] R h := by kernel_rfl
theorem digest_constants.calls  {R : Value → Heap → Prop} {h : Heap} (H : digest_constants.body  R h) : HC Tryz.prog F.digest_constants #[] R h :=
  evFn_sound mixed Tryz.func93 (by kernel_rfl) (digest_constants.eq  R h ▸ H)

/-! zugzwang/bits.Choose -/
def bits_Choose.body (x0 : Int) (a1 : Int) (b2 : Int) (R : Value → Heap → Prop) (h : Heap) : Prop :=
  R (.int .u32 (IntKind.u32.wrap (BitVec.ofInt (IntKind.bits .u32) b2 ^^^ BitVec.ofInt (IntKind.bits .u32) (IntKind.u32.wrap (BitVec.ofInt (IntKind.bits .u32) x0 &&& BitVec.ofInt (IntKind.bits .u32) (IntKind.u32.wrap (BitVec.ofInt (IntKind.bits .u32) a1 ^^^ BitVec.ofInt (IntKind.bits .u32) b2).toNat)).toNat)).toNat)) h
def bits_Choose.ann : Ann := (.seq .leaf (.seq .leaf .leaf))
theorem bits_Choose.eq (x0 : Int) (a1 : Int) (b2 : Int) (R : Value → Heap → Prop) (h : Heap) : bits_Choose.body x0 a1 b2 R h = evFn Tryz.prog Tryz.f111 bits_Choose.ann [(.int .u32 x0), (.int .u32 a1), (.int .u32 b2)] R h := by kernel_rfl
theorem bits_Choose.calls {x0 : Int} {a1 : Int} {b2 : Int} {R : Value → Heap → Prop} {h : Heap} (H : bits_Choose.body x0 a1 b2 R h) : HC Tryz.prog F.bits_Choose #[(.int .u32 x0), (.int .u32 a1), (.int .u32 b2)] R h :=
  evFn_sound mixed Tryz.func111 (by kernel_rfl) (bits_Choose.eq x0 a1 b2 R h ▸ H)

/-! (*zugzwang/digest.state).step -/
def digest_state_step.body (s0 : Option Addr) (w1 : Int) (k2 : Int) (R : Value → Heap → Prop) (h : Heap) : Prop :=
  derefK s0 (fun (a_1 : Addr) =>
  idxArrK ((some a_1)) 8 7 (sizeOfT Tryz.prog T.uint32) (fun (a_2 : Addr) =>
  derefK s0 (fun (a_3 : Addr) =>
  idxArrK ((some a_3)) 8 4 (sizeOfT Tryz.prog T.uint32) (fun (a_4 : Addr) =>
  derefK s0 (fun (a_5 : Addr) =>
  idxArrK ((some a_5)) 8 4 (sizeOfT Tryz.prog T.uint32) (fun (a_6 : Addr) =>
  derefK s0 (fun (a_7 : Addr) =>
  idxArrK ((some a_7)) 8 5 (sizeOfT Tryz.prog T.uint32) (fun (a_8 : Addr) =>
  derefK s0 (fun (a_9 : Addr) =>
  idxArrK ((some a_9)) 8 6 (sizeOfT Tryz.prog T.uint32) (fun (a_10 : Addr) =>
  loadK (.int .u32) h ((some a_2)) (fun (v11 : Int) =>
  loadK (.int .u32) h ((some a_4)) (fun (v12 : Int) =>
  loadK (.int .u32) h ((some a_6)) (fun (v13 : Int) =>
  loadK (.int .u32) h ((some a_8)) (fun (v14 : Int) =>
  loadK (.int .u32) h ((some a_10)) (fun (v15 : Int) =>
  newSlK h 3 #[.int .i64 6, .int .i64 11, .int .i64 25] T.int (fun v16 h =>
  callK Tryz.prog (.int .u32) F.bits_Mix #[.int .u32 v12, .slice v16.a v16.n v16.c] (fun (v17 : Int) h =>
  stillK (.int .u32) h ((some a_10)) v15 ∧
  stillK (.int .u32) h ((some a_8)) v14 ∧
  stillK (.int .u32) h ((some a_6)) v13 ∧
  stillK (.int .u32) h ((some a_2)) v11 ∧
  callK Tryz.prog (.int .u32) F.bits_Choose #[.int .u32 v13, .int .u32 v14, .int .u32 v15] (fun (v18 : Int) h =>
  stillK (.int .u32) h ((some a_2)) v11 ∧
  newSlK h 5 #[.int .u32 v11, .int .u32 v17, .int .u32 v18, .int .u32 k2, .int .u32 w1] T.uint32 (fun v19 h =>
  callK Tryz.prog (.int .u32) F.bits_Sum #[.slice v19.a v19.n v19.c] (fun (v20 : Int) h =>
  derefK s0 (fun (a_21 : Addr) =>
  idxArrK ((some a_21)) 8 0 (sizeOfT Tryz.prog T.uint32) (fun (a_22 : Addr) =>
  derefK s0 (fun (a_23 : Addr) =>
  idxArrK ((some a_23)) 8 0 (sizeOfT Tryz.prog T.uint32) (fun (a_24 : Addr) =>
  derefK s0 (fun (a_25 : Addr) =>
  idxArrK ((some a_25)) 8 1 (sizeOfT Tryz.prog T.uint32) (fun (a_26 : Addr) =>
  derefK s0 (fun (a_27 : Addr) =>
  idxArrK ((some a_27)) 8 0 (sizeOfT Tryz.prog T.uint32) (fun (a_28 : Addr) =>
  derefK s0 (fun (a_29 : Addr) =>
  idxArrK ((some a_29)) 8 2 (sizeOfT Tryz.prog T.uint32) (fun (a_30 : Addr) =>
  derefK s0 (fun (a_31 : Addr) =>
  idxArrK ((some a_31)) 8 1 (sizeOfT Tryz.prog T.uint32) (fun (a_32 : Addr) =>
  derefK s0 (fun (a_33 : Addr) =>
  idxArrK ((some a_33)) 8 2 (sizeOfT Tryz.prog T.uint32) (fun (a_34 : Addr) =>
  loadK (.int .u32) h ((some a_22)) (fun (v35 : Int) =>
  loadK (.int .u32) h ((some a_24)) (fun (v36 : Int) =>
  loadK (.int .u32) h ((some a_26)) (fun (v37 : Int) =>
  loadK (.int .u32) h ((some a_28)) (fun (v38 : Int) =>
  loadK (.int .u32) h ((some a_30)) (fun (v39 : Int) =>
  loadK (.int .u32) h ((some a_32)) (fun (v40 : Int) =>
  loadK (.int .u32) h ((some a_34)) (fun (v41 : Int) =>
  newSlK h 3 #[.int .i64 2, .int .i64 13, .int .i64 22] T.int (fun v42 h =>
  callK Tryz.prog (.int .u32) F.bits_Mix #[.int .u32 v35, .slice v42.a v42.n v42.c] (fun (v43 : Int) h =>
  stillK (.int .u32) h ((some a_34)) v41 ∧
  stillK (.int .u32) h ((some a_32)) v40 ∧
  stillK (.int .u32) h ((some a_30)) v39 ∧
  stillK (.int .u32) h ((some a_28)) v38 ∧
  stillK (.int .u32) h ((some a_26)) v37 ∧
  stillK (.int .u32) h ((some a_24)) v36 ∧
  newSlK h 2 #[.int .u32 v43, (.int .u32 (IntKind.u32.wrap (BitVec.ofInt (IntKind.bits .u32) (IntKind.u32.wrap (BitVec.ofInt (IntKind.bits .u32) (IntKind.u32.wrap (BitVec.ofInt (IntKind.bits .u32) v36 &&& BitVec.ofInt (IntKind.bits .u32) v37).toNat) ||| BitVec.ofInt (IntKind.bits .u32) (IntKind.u32.wrap (BitVec.ofInt (IntKind.bits .u32) v38 &&& BitVec.ofInt (IntKind.bits .u32) v39).toNat)).toNat) ||| BitVec.ofInt (IntKind.bits .u32) (IntKind.u32.wrap (BitVec.ofInt (IntKind.bits .u32) v40 &&& BitVec.ofInt (IntKind.bits .u32) v41).toNat)).toNat))] T.uint32 (fun v44 h =>
  callK Tryz.prog (.int .u32) F.bits_Sum #[.slice v44.a v44.n v44.c] (fun (v45 : Int) h =>
  derefK s0 (fun (a_46 : Addr) =>
  sliceArrK ((some a_46)) 8 (some 1) none none (sizeOfT Tryz.prog T.uint32) (fun (v47 : Sl) =>
  derefK s0 (fun (a_48 : Addr) =>
  sliceArrK ((some a_48)) 8 none (some 7) none (sizeOfT Tryz.prog T.uint32) (fun (v49 : Sl) =>
  opK Tryz.prog (.int .i64) (Builtin.copy_ #[T.sl_uint32, T.sl_uint32] T.int #[.slice v47.a v47.n v47.c, .slice v49.a v49.n v49.c]) (fun (v50 : Int) h =>
  derefK s0 (fun (a_51 : Addr) =>
  idxArrK ((some a_51)) 8 4 (sizeOfT Tryz.prog T.uint32) (fun (a_52 : Addr) =>
  derefK s0 (fun (a_53 : Addr) =>
  loadK (.int .u32) h ((some a_52)) (fun (v54 : Int) =>
  idxArrK ((some a_53)) 8 4 (sizeOfT Tryz.prog T.uint32) (fun (a_55 : Addr) =>
  storeK h ((some a_55)) (.int .u32 (IntKind.u32.wrap (v54 + v20))) (fun h =>
  derefK s0 (fun (a_56 : Addr) =>
  idxArrK ((some a_56)) 8 0 (sizeOfT Tryz.prog T.uint32) (fun (a_57 : Addr) =>
  storeK h ((some a_57)) (.int .u32 (IntKind.u32.wrap (v20 + v45))) (fun h =>
  R (.tuple #[]) h)))))))))) h))))) h)) h))))))))))))))))))))))) h)) h) h))))))))))))))))
def digest_state_step.ann : Ann := (.seq (.any (.loc 0 (.loc 1 (.loc 2 (.loc 4 (.loc 5 (.loc 6 (.loc 10 (.loc 11 (.loc 12 (.loc 14 (.loc 15 (.loc 16 (.loc 18 (.loc 19 (.loc 20 (.loc 23 (.loc 24 (.st 3 234881024 (.st 7 239075840 (.st 13 239075328 (.st 17 239075328 (.st 21 239075328 (.last 8 (.last 9 (.last 22 (.last 25 (.last 26 (.loc 27 .done))))))))))))))))))))))))))))) (.seq (.any (.loc 0 (.loc 1 (.loc 2 (.loc 6 (.loc 7 (.loc 8 (.loc 10 (.loc 11 (.loc 12 (.loc 15 (.loc 16 (.loc 17 (.loc 19 (.loc 20 (.loc 21 (.loc 25 (.loc 26 (.loc 27 (.loc 29 (.loc 30 (.loc 31 (.st 3 240518168608 (.st 9 257714831360 (.st 13 257714831360 (.loc 14 (.st 18 257723203584 (.st 22 257723203584 (.loc 23 (.loc 24 (.st 28 266287972352 (.st 32 266287972352 (.loc 33 (.loc 34 (.last 4 (.last 5 (.last 35 (.last 36 (.loc 37 .done))))))))))))))))))))))))))))))))))))))) (.seq (.any (.loc 0 (.loc 1 (.loc 2 (.loc 3 (.loc 4 (.loc 5 (.last 6 .done)))))))) (.seq (.any (.loc 0 (.loc 1 (.loc 2 (.loc 4 (.loc 6 (.st 3 416 (.loc 5 (.loc 7 (.last 8 .done)))))))))) .leaf))))
theorem digest_state_step.eq (s0 : Option Addr) (w1 : Int) (k2 : Int) (R : Value → Heap → Prop) (h : Heap) : digest_state_step.body s0 w1 k2 R h = evFn Tryz.prog Tryz.f94 digest_state_step.ann [.pointer s0, .int .u32 w1, .int .u32 k2] R h := by kernel_rfl
theorem digest_state_step.calls {s0 : Option Addr} {w1 : Int} {k2 : Int} {R : Value → Heap → Prop} {h : Heap} (H : digest_state_step.body s0 w1 k2 R h) : HC Tryz.prog F.digest_state_step #[.pointer s0, .int .u32 w1, .int .u32 k2] R h :=
  evFn_sound mixed Tryz.func94 (by kernel_rfl) (digest_state_step.eq s0 w1 k2 R h ▸ H)

/-! (*zugzwang/digest.state).take -/
def digest_state_take.body (s0 : Option Addr) (b1 : Sl) (R : Value → Heap → Prop) (h : Heap) : Prop :=
  newK h (zerosOf Tryz.prog T.a64_uint32) T.a64_uint32 (fun (w_1 : Option Addr) h =>
  callK Tryz.prog (Kd.pair .slice (.int .i64)) F.bits_Words #[.slice b1.a b1.n b1.c] (fun (v2 : Sl × Int) h =>
  sliceArrK w_1 64 none none none (sizeOfT Tryz.prog T.uint32) (fun (v3 : Sl) =>
  opK Tryz.prog (.int .i64) (Builtin.copy_ #[T.sl_uint32, T.sl_uint32] T.int #[.slice v3.a v3.n v3.c, .slice v2.1.a v2.1.n v2.1.c]) (fun (v4 : Int) h =>
  loopW (fun X_6 (s_5 : Int) (h : Heap) =>
  if (decide (s_5 < 64)) = true then
  idxArrK w_1 64 (IntKind.i64.wrap (s_5 - 15)) (sizeOfT Tryz.prog T.uint32) (fun (a_7 : Addr) =>
  idxArrK w_1 64 (IntKind.i64.wrap (s_5 - 15)) (sizeOfT Tryz.prog T.uint32) (fun (a_8 : Addr) =>
  loadK (.int .u32) h ((some a_7)) (fun (v9 : Int) =>
  loadK (.int .u32) h ((some a_8)) (fun (v10 : Int) =>
  newSlK h 2 #[.int .i64 7, .int .i64 18] T.int (fun v11 h =>
  callK Tryz.prog (.int .u32) F.bits_Mix #[.int .u32 v9, .slice v11.a v11.n v11.c] (fun (v12 : Int) h =>
  stillK (.int .u32) h ((some a_8)) v10 ∧
  callK Tryz.prog (.int .u32) F.bits_Shift #[.int .u32 v10, .int .i64 3] (fun (v13 : Int) h =>
  idxArrK w_1 64 (IntKind.i64.wrap (s_5 - 2)) (sizeOfT Tryz.prog T.uint32) (fun (a_14 : Addr) =>
  idxArrK w_1 64 (IntKind.i64.wrap (s_5 - 2)) (sizeOfT Tryz.prog T.uint32) (fun (a_15 : Addr) =>
  loadK (.int .u32) h ((some a_14)) (fun (v16 : Int) =>
  loadK (.int .u32) h ((some a_15)) (fun (v17 : Int) =>
  newSlK h 2 #[.int .i64 17, .int .i64 19] T.int (fun v18 h =>
  callK Tryz.prog (.int .u32) F.bits_Mix #[.int .u32 v16, .slice v18.a v18.n v18.c] (fun (v19 : Int) h =>
  stillK (.int .u32) h ((some a_15)) v17 ∧
  callK Tryz.prog (.int .u32) F.bits_Shift #[.int .u32 v17, .int .i64 10] (fun (v20 : Int) h =>
  idxArrK w_1 64 (IntKind.i64.wrap (s_5 - 16)) (sizeOfT Tryz.prog T.uint32) (fun (a_21 : Addr) =>
  idxArrK w_1 64 (IntKind.i64.wrap (s_5 - 7)) (sizeOfT Tryz.prog T.uint32) (fun (a_22 : Addr) =>
  loadK (.int .u32) h ((some a_21)) (fun (v23 : Int) =>
  loadK (.int .u32) h ((some a_22)) (fun (v24 : Int) =>
  newSlK h 4 #[.int .u32 v23, (.int .u32 (IntKind.u32.wrap (BitVec.ofInt (IntKind.bits .u32) v12 ^^^ BitVec.ofInt (IntKind.bits .u32) v13).toNat)), .int .u32 v24, (.int .u32 (IntKind.u32.wrap (BitVec.ofInt (IntKind.bits .u32) v19 ^^^ BitVec.ofInt (IntKind.bits .u32) v20).toNat))] T.uint32 (fun v25 h =>
  callK Tryz.prog (.int .u32) F.bits_Sum #[.slice v25.a v25.n v25.c] (fun (v26 : Int) h =>
  idxArrK w_1 64 s_5 (sizeOfT Tryz.prog T.uint32) (fun (a_27 : Addr) =>
  storeK h ((some a_27)) (.int .u32 v26) (fun h =>
  X_6 (IntKind.i64.wrap (s_5 + 1)) h))) h)))))) h) h)))))) h) h)))))
  else
  derefK s0 (fun (a_28 : Addr) =>
  loadAggK (sizeOfT Tryz.prog T.digest_state) h ((some a_28)) (fun (v29 : Array Value) =>
  newK h (zerosOf Tryz.prog T.digest_state) T.digest_state (fun (was_30 : Option Addr) h =>
  storeAggK (sizeOfT Tryz.prog T.digest_state) h was_30 v29 (fun h =>
  callK Tryz.prog .agg F.digest_constants #[] (fun (v31 : Array Value) h =>
  loopW (fun X_33 (s_32 : Int) (h : Heap) =>
  if (decide (s_32 < 64)) = true then
  idxValK (.int .u32) v31 64 s_32 (sizeOfT Tryz.prog T.uint32) (fun (v34 : Int) =>
  idxArrK w_1 64 s_32 (sizeOfT Tryz.prog T.uint32) (fun (a_35 : Addr) =>
  loadK (.int .u32) h ((some a_35)) (fun (v36 : Int) =>
  callK Tryz.prog .unit F.digest_state_step #[.pointer s0, .int .u32 v36, .int .u32 v34] (fun (v37 : Unit) h =>
  X_33 (IntKind.i64.wrap (s_32 + 1)) h) h)))
  else
  loopW (fun X_39 (s_38 : Int) (h : Heap) =>
  if (decide (s_38 < 8)) = true then
  derefK s0 (fun (a_40 : Addr) =>
  idxArrK ((some a_40)) 8 s_38 (sizeOfT Tryz.prog T.uint32) (fun (a_41 : Addr) =>
  idxArrK was_30 8 s_38 (sizeOfT Tryz.prog T.uint32) (fun (a_42 : Addr) =>
  derefK s0 (fun (a_43 : Addr) =>
  loadK (.int .u32) h ((some a_41)) (fun (v44 : Int) =>
  loadK (.int .u32) h ((some a_42)) (fun (v45 : Int) =>
  idxArrK ((some a_43)) 8 s_38 (sizeOfT Tryz.prog T.uint32) (fun (a_46 : Addr) =>
  storeK h ((some a_46)) (.int .u32 (IntKind.u32.wrap (v44 + v45))) (fun h =>
  X_39 (IntKind.i64.wrap (s_38 + 1)) h))))))))
  else
  R (.tuple #[]) h) 0 h) 0 h) h))))) 16 h) h)) h)
def digest_state_take.ann : Ann := (.seq .leaf (.seq .leaf (.seq .leaf (.seq (.seq .leaf (.block (.loop [(7, (.int .i64))] (.seq (.seq .leaf (.cond .leaf .leaf)) (.seq (.block (.seq (.any (.loc 0 (.loc 1 (.loc 2 (.loc 6 (.loc 7 (.loc 8 (.st 3 7200 (.st 9 7168 (.last 4 (.last 5 (.last 10 (.loc 11 (.loc 12 .done)))))))))))))) (.seq (.any (.loc 0 (.loc 1 (.loc 2 (.loc 6 (.loc 7 (.loc 8 (.st 3 7200 (.st 9 7168 (.last 4 (.last 5 (.last 10 (.loc 11 (.loc 12 .done)))))))))))))) (.any (.loc 0 (.loc 1 (.loc 2 (.loc 3 (.loc 5 (.loc 6 (.loc 7 (.loc 8 (.loc 10 (.st 4 30720 (.st 9 30720 (.last 11 (.last 12 (.loc 13 (.last 14 .done))))))))))))))))))) .leaf))))) (.seq .leaf (.seq (.seq .leaf (.block (.loop [(68, (.int .i64))] (.seq .leaf (.seq (.cond .leaf .leaf) (.seq (.block (.seq .leaf .leaf)) .leaf)))))) (.seq .leaf (.block (.loop [(79, (.int .i64))] (.seq .leaf (.seq (.cond .leaf .leaf) (.seq (.block (.seq .leaf (.any (.loc 0 (.loc 1 (.loc 2 (.loc 3 (.loc 5 (.loc 6 (.loc 9 (.st 4 3328 (.st 7 3328 (.loc 8 (.loc 10 (.last 11 .done))))))))))))))) .leaf))))))))))))
theorem digest_state_take.eq (s0 : Option Addr) (b1 : Sl) (R : Value → Heap → Prop) (h : Heap) : digest_state_take.body s0 b1 R h = evFn Tryz.prog Tryz.f71 digest_state_take.ann [.pointer s0, .slice b1.a b1.n b1.c] R h := by kernel_rfl
theorem digest_state_take.calls {s0 : Option Addr} {b1 : Sl} {R : Value → Heap → Prop} {h : Heap} (H : digest_state_take.body s0 b1 R h) : HC Tryz.prog F.digest_state_take #[.pointer s0, .slice b1.a b1.n b1.c] R h :=
  evFn_sound mixed Tryz.func71 (by kernel_rfl) (digest_state_take.eq s0 b1 R h ▸ H)

/-! (*zugzwang/digest.Hasher).all -/
def digest_Hasher_all.body (h0 : Option Addr) (rows1 : Sl) (R : Value → Heap → Prop) (h : Heap) : Prop :=
  loopW (fun X_2 (s_1 : Int) (h : Heap) =>
  if (decide (s_1 < ((rows1.n : Int)))) = true then
  idxK rows1 s_1 (sizeOfT Tryz.prog T.sl_uint8) (fun (a_3 : Addr) =>
  loadK .slice h ((some a_3)) (fun (v4 : Sl) =>
  derefK h0 (fun (a_5 : Addr) =>
  fldK ((some a_5)) 9 (fun (a_6 : Addr) =>
  loadK (.int .i64) h ((some a_6)) (fun (v7 : Int) =>
  derefK h0 (fun (a_8 : Addr) =>
  fldK ((some a_8)) 9 (fun (a_9 : Addr) =>
  storeK h ((some a_9)) (.int .i64 (IntKind.i64.wrap (v7 + ((v4.n : Int))))) (fun h =>
  derefK h0 (fun (a_10 : Addr) =>
  fldK ((some a_10)) 8 (fun (a_11 : Addr) =>
  loadK .slice h ((some a_11)) (fun (v12 : Sl) =>
  opK Tryz.prog .slice (Builtin.append_ #[T.sl_uint8, T.sl_uint8] T.sl_uint8 #[.slice v12.a v12.n v12.c, .slice v4.a v4.n v4.c]) (fun (v13 : Sl) h =>
  derefK h0 (fun (a_14 : Addr) =>
  fldK ((some a_14)) 8 (fun (a_15 : Addr) =>
  storeK h ((some a_15)) (.slice v13.a v13.n v13.c) (fun h =>
  loopW (fun X_17 (s_16 : Unit) (h : Heap) =>
  derefK h0 (fun (a_18 : Addr) =>
  fldK ((some a_18)) 8 (fun (a_19 : Addr) =>
  loadK .slice h ((some a_19)) (fun (v20 : Sl) =>
  if (decide (((v20.n : Int)) ≥ 64)) = true then
  derefK h0 (fun (a_21 : Addr) =>
  fldK ((some a_21)) 0 (fun (a_22 : Addr) =>
  derefK h0 (fun (a_23 : Addr) =>
  fldK ((some a_23)) 8 (fun (a_24 : Addr) =>
  loadK .slice h ((some a_24)) (fun (v25 : Sl) =>
  sliceK v25 none (some 64) none (sizeOfT Tryz.prog T.uint8) (fun (v26 : Sl) =>
  callK Tryz.prog .unit F.digest_state_take #[(.pointer ((some a_22))), .slice v26.a v26.n v26.c] (fun (v27 : Unit) h =>
  derefK h0 (fun (a_28 : Addr) =>
  fldK ((some a_28)) 8 (fun (a_29 : Addr) =>
  loadK .slice h ((some a_29)) (fun (v30 : Sl) =>
  sliceK v30 (some 64) none none (sizeOfT Tryz.prog T.uint8) (fun (v31 : Sl) =>
  derefK h0 (fun (a_32 : Addr) =>
  fldK ((some a_32)) 8 (fun (a_33 : Addr) =>
  storeK h ((some a_33)) (.slice v31.a v31.n v31.c) (fun h =>
  X_17 () h)))))))) h))))))
  else
  X_2 (IntKind.i64.wrap (s_1 + 1)) h)))) () h)))) h)))))))))))
  else
  derefK h0 (fun (a_34 : Addr) =>
  fldK ((some a_34)) 8 (fun (a_35 : Addr) =>
  loadK .slice h ((some a_35)) (fun (v36 : Sl) =>
  callK Tryz.prog .slice F.slices_Clone_byte_byte #[.slice v36.a v36.n v36.c] (fun (v37 : Sl) h =>
  derefK h0 (fun (a_38 : Addr) =>
  fldK ((some a_38)) 8 (fun (a_39 : Addr) =>
  storeK h ((some a_39)) (.slice v37.a v37.n v37.c) (fun h =>
  R (.tuple #[]) h)))) h)))) 0 h
def digest_Hasher_all.ann : Ann := (.seq (.seq .leaf (.block (.loop [(8, (.int .i64))] (.seq .leaf (.seq (.cond .leaf .leaf) (.seq (.block (.seq .leaf (.seq .leaf (.seq .leaf (.block (.loop [] (.seq (.seq .leaf (.cond .leaf .leaf)) (.block (.seq (.any (.loc 0 (.loc 1 (.loc 2 (.loc 3 (.loc 4 (.loc 5 (.st 6 384 (.loc 7 (.last 8 .done)))))))))) .leaf))))))))) .leaf)))))) .leaf)
theorem digest_Hasher_all.eq (h0 : Option Addr) (rows1 : Sl) (R : Value → Heap → Prop) (h : Heap) : digest_Hasher_all.body h0 rows1 R h = evFn Tryz.prog Tryz.f57 digest_Hasher_all.ann [.pointer h0, .slice rows1.a rows1.n rows1.c] R h := by kernel_rfl
theorem digest_Hasher_all.calls {h0 : Option Addr} {rows1 : Sl} {R : Value → Heap → Prop} {h : Heap} (H : digest_Hasher_all.body h0 rows1 R h) : HC Tryz.prog F.digest_Hasher_all #[.pointer h0, .slice rows1.a rows1.n rows1.c] R h :=
  evFn_sound mixed Tryz.func57 (by kernel_rfl) (digest_Hasher_all.eq h0 rows1 R h ▸ H)

/-! (*zugzwang/bits.row).put -/
def bits_row_put.body (r0 : Option Addr) (w1 : Int) (R : Value → Heap → Prop) (h : Heap) : Prop :=
  derefK r0 (fun (a_1 : Addr) =>
  fldK ((some a_1)) 0 (fun (a_2 : Addr) =>
  loadK .slice h ((some a_2)) (fun (v_3 : Sl) =>
  shiftK 24
  (shiftK 16
  (shiftK 8
  (newSlK h 4 #[(.int .u8 (IntKind.u8.wrap (Int.fdiv w1 (2 ^ min (Int.toNat 24) (IntKind.bits .u32))))), (.int .u8 (IntKind.u8.wrap (Int.fdiv w1 (2 ^ min (Int.toNat 16) (IntKind.bits .u32))))), (.int .u8 (IntKind.u8.wrap (Int.fdiv w1 (2 ^ min (Int.toNat 8) (IntKind.bits .u32))))), (.int .u8 (IntKind.u8.wrap w1))] T.uint8 (fun (v_4 : Sl) (h : Heap) =>
  opK Tryz.prog .slice (Builtin.append_ #[T.sl_uint8, T.sl_uint8] T.sl_uint8 #[(.slice v_3.a v_3.n v_3.c), (.slice v_4.a v_4.n v_4.c)]) (fun (v_5 : Sl) (h : Heap) =>
  derefK r0 (fun (a_6 : Addr) =>
  fldK ((some a_6)) 0 (fun (a_7 : Addr) =>
  storeK h ((some a_7)) (.slice v_5.a v_5.n v_5.c) (fun (h : Heap) =>
  R (.tuple #[]) h)))) h)))))))
def bits_row_put.ann : Ann := .leaf
theorem bits_row_put.eq (r0 : Option Addr) (w1 : Int) (R : Value → Heap → Prop) (h : Heap) : bits_row_put.body r0 w1 R h = evFn Tryz.prog Tryz.f95 bits_row_put.ann [(.pointer r0), (.int .u32 w1)] R h := by kernel_rfl
theorem bits_row_put.calls {r0 : Option Addr} {w1 : Int} {R : Value → Heap → Prop} {h : Heap} (H : bits_row_put.body r0 w1 R h) : HC Tryz.prog F.bits_row_put #[(.pointer r0), (.int .u32 w1)] R h :=
  evFn_sound mixed Tryz.func95 (by kernel_rfl) (bits_row_put.eq r0 w1 R h ▸ H)

/-! zugzwang/bits.Bytes -/
def bits_Bytes.body (words0 : Sl) (R : Value → Heap → Prop) (h : Heap) : Prop :=
  newK h (zerosOf Tryz.prog T.bits_reader) T.bits_reader (fun (r_1 : Option Addr) (h : Heap) =>
  loopW (fun X_3 (s_2 : Int) (h : Heap) =>
  if (decide (s_2 < ((words0.n : Int)))) = true then
  idxK words0 s_2 (sizeOfT Tryz.prog T.uint32) (fun (a_4 : Addr) =>
  loadK (.int .u32) h ((some a_4)) (fun (v_5 : Int) =>
  fldK r_1 0 (fun (a_6 : Addr) =>
  callK Tryz.prog .unit F.bits_row_put #[(.pointer ((some a_6))), (.int .u32 v_5)] (fun (v_7 : Unit) (h : Heap) =>
  X_3 (IntKind.i64.wrap (s_2 + 1)) h) h)))
  else
  fldK r_1 0 (fun (a_8 : Addr) =>
  fldK ((some a_8)) 0 (fun (a_9 : Addr) =>
  loadK .slice h ((some a_9)) (fun (v_10 : Sl) =>
  R (.slice v_10.a v_10.n v_10.c) h)))) 0 h)
def bits_Bytes.ann : Ann := (.seq .leaf (.seq .leaf (.seq (.seq .leaf (.block (.loop [(8, (.int .i64))] (.seq .leaf (.seq (.cond .leaf .leaf) (.seq (.block (.seq .leaf .leaf)) .leaf)))))) (.seq .leaf .leaf))))
theorem bits_Bytes.eq (words0 : Sl) (R : Value → Heap → Prop) (h : Heap) : bits_Bytes.body words0 R h = evFn Tryz.prog Tryz.f73 bits_Bytes.ann [(.slice words0.a words0.n words0.c)] R h := by kernel_rfl
theorem bits_Bytes.calls {words0 : Sl} {R : Value → Heap → Prop} {h : Heap} (H : bits_Bytes.body words0 R h) : HC Tryz.prog F.bits_Bytes #[(.slice words0.a words0.n words0.c)] R h :=
  evFn_sound mixed Tryz.func73 (by kernel_rfl) (bits_Bytes.eq words0 R h ▸ H)

/-! zugzwang/digest.fill -/
def digest_fill.body (n0 : Int) (R : Value → Heap → Prop) (h : Heap) : Prop :=
  divK 64
  (divK 64
  (opK Tryz.prog .slice (Instr.makeSlice T.sl_uint8 (.int .i64 (IntKind.i64.wrap (1 + (Int.tmod (IntKind.i64.wrap (119 - (Int.tmod n0 64))) 64)))) (.int .i64 128)) (fun (v_1 : Sl) (h : Heap) =>
  idxK v_1 0 (sizeOfT Tryz.prog T.uint8) (fun (a_2 : Addr) =>
  storeK h ((some a_2)) (.int .u8 128) (fun (h : Heap) =>
  shiftK 32
  (newSlK h 2 #[(.int .u32 (IntKind.u32.wrap (Int.fdiv (IntKind.u64.wrap (IntKind.i64.wrap (8 * n0))) (2 ^ min (Int.toNat 32) (IntKind.bits .u64))))), (.int .u32 (IntKind.u32.wrap (IntKind.u64.wrap (IntKind.i64.wrap (8 * n0)))))] T.uint32 (fun (v_3 : Sl) (h : Heap) =>
  callK Tryz.prog .slice F.bits_Bytes #[(.slice v_3.a v_3.n v_3.c)] (fun (v_4 : Sl) (h : Heap) =>
  opK Tryz.prog .slice (Builtin.append_ #[T.sl_uint8, T.sl_uint8] T.sl_uint8 #[(.slice v_1.a v_1.n v_1.c), (.slice v_4.a v_4.n v_4.c)]) (fun (v_5 : Sl) (h : Heap) =>
  R (.slice v_5.a v_5.n v_5.c) h) h) h))))) h))
def digest_fill.ann : Ann := (.seq .leaf (.seq .leaf (.seq .leaf (.seq .leaf (.seq .leaf .leaf)))))
theorem digest_fill.eq (n0 : Int) (R : Value → Heap → Prop) (h : Heap) : digest_fill.body n0 R h = evFn Tryz.prog Tryz.f72 digest_fill.ann [(.int .i64 n0)] R h := by kernel_rfl
theorem digest_fill.calls {n0 : Int} {R : Value → Heap → Prop} {h : Heap} (H : digest_fill.body n0 R h) : HC Tryz.prog F.digest_fill #[(.int .i64 n0)] R h :=
  evFn_sound mixed Tryz.func72 (by kernel_rfl) (digest_fill.eq n0 R h ▸ H)

/-! (*zugzwang/digest.Hasher).ended -/
def digest_Hasher_ended.body (h0 : Option Addr) (R : Value → Heap → Prop) (h : Heap) : Prop :=
  newK h (zerosOf Tryz.prog T.api_Tag) T.api_Tag (fun (t_1 : Option Addr) h =>
  derefK h0 (fun (a_2 : Addr) =>
  fldK ((some a_2)) 9 (fun (a_3 : Addr) =>
  loadK (.int .i64) h ((some a_3)) (fun (v4 : Int) =>
  callK Tryz.prog .slice F.digest_fill #[.int .i64 v4] (fun (v5 : Sl) h =>
  newSlK h 1 #[.slice v5.a v5.n v5.c] T.sl_uint8 (fun v6 h =>
  callK Tryz.prog .unit F.digest_Hasher_all #[.pointer h0, .slice v6.a v6.n v6.c] (fun (v7 : Unit) h =>
  sliceArrK t_1 32 none none none (sizeOfT Tryz.prog T.uint8) (fun (v8 : Sl) =>
  derefK h0 (fun (a_9 : Addr) =>
  fldK ((some a_9)) 0 (fun (a_10 : Addr) =>
  sliceArrK ((some a_10)) 8 none none none (sizeOfT Tryz.prog T.uint32) (fun (v11 : Sl) =>
  callK Tryz.prog .slice F.bits_Bytes #[.slice v11.a v11.n v11.c] (fun (v12 : Sl) h =>
  opK Tryz.prog (.int .i64) (Builtin.copy_ #[T.sl_uint8, T.sl_uint8] T.int #[.slice v8.a v8.n v8.c, .slice v12.a v12.n v12.c]) (fun (v13 : Int) h =>
  loadAggK (sizeOfT Tryz.prog T.api_Tag) h t_1 (fun (v14 : Array Value) =>
  storeAggK (sizeOfT Tryz.prog T.api_Tag) h t_1 v14 (fun h =>
  quietK Tryz.prog .agg (Instr.loadAt T.api_Tag (.pointer t_1)) (fun r15 =>
  R (.agg r15) h) h))) h) h))))) h)) h))))
def digest_Hasher_ended.ann : Ann := (.seq .leaf (.seq .leaf (.seq (.any (.loc 0 (.loc 1 (.loc 2 (.loc 3 (.loc 4 (.last 5 (.last 6 .done)))))))) (.seq .leaf .leaf))))
theorem digest_Hasher_ended.eq (h0 : Option Addr) (R : Value → Heap → Prop) (h : Heap) : digest_Hasher_ended.body h0 R h = evFn Tryz.prog Tryz.f58 digest_Hasher_ended.ann [.pointer h0] R h := by kernel_rfl
theorem digest_Hasher_ended.calls {h0 : Option Addr} {R : Value → Heap → Prop} {h : Heap} (H : digest_Hasher_ended.body h0 R h) : HC Tryz.prog F.digest_Hasher_ended #[.pointer h0] R h :=
  evFn_sound mixed Tryz.func58 (by kernel_rfl) (digest_Hasher_ended.eq h0 R h ▸ H)

/-! zugzwang/digest.Of -/
def digest_Of.body (rows0 : Sl) (R : Value → Heap → Prop) (h : Heap) : Prop :=
  newK h (zerosOf Tryz.prog T.api_Tag) T.api_Tag (fun (v_1 : Option Addr) (h : Heap) =>
  callK Tryz.prog .ptr F.digest_New #[] (fun (v_2 : Option Addr) (h : Heap) =>
  callK Tryz.prog .unit F.digest_Hasher_all #[(.pointer v_2), (.slice rows0.a rows0.n rows0.c)] (fun (v_3 : Unit) (h : Heap) =>
  callK Tryz.prog .agg F.digest_Hasher_ended #[(.pointer v_2)] (fun (v_4 : Array Value) (h : Heap) =>
  storeAggK (sizeOfT Tryz.prog T.api_Tag) h v_1 v_4 (fun (h : Heap) =>
  quietK Tryz.prog .agg (Instr.loadAt T.api_Tag (.pointer v_1)) (fun (r_5 : Array Value) =>
  R (.agg r_5) h) h)) h) h) h)
def digest_Of.ann : Ann := (.seq .leaf (.seq .leaf (.seq .leaf (.seq .leaf .leaf))))
theorem digest_Of.eq (rows0 : Sl) (R : Value → Heap → Prop) (h : Heap) : digest_Of.body rows0 R h = evFn Tryz.prog Tryz.f42 digest_Of.ann [(.slice rows0.a rows0.n rows0.c)] R h := by kernel_rfl
theorem digest_Of.calls {rows0 : Sl} {R : Value → Heap → Prop} {h : Heap} (H : digest_Of.body rows0 R h) : HC Tryz.prog F.digest_Of #[(.slice rows0.a rows0.n rows0.c)] R h :=
  evFn_sound mixed Tryz.func42 (by kernel_rfl) (digest_Of.eq rows0 R h ▸ H)

/-! zugzwang/tags.eight -/
def tags_eight.body (n0 : Int) (R : Value → Heap → Prop) (h : Heap) : Prop :=
  loopW (fun X_2 (s_1 : Sl × Int) (h : Heap) =>
  if (decide (s_1.2 < 8)) = true then
  shiftK (IntKind.i64.wrap (56 - (IntKind.i64.wrap (8 * s_1.2))))
  (newSlK h 1 #[(.int .u8 (IntKind.u8.wrap (Int.fdiv (IntKind.u64.wrap n0) (2 ^ min (Int.toNat (IntKind.i64.wrap (56 - (IntKind.i64.wrap (8 * s_1.2))))) (IntKind.bits .u64)))))] T.uint8 (fun (v_3 : Sl) (h : Heap) =>
  opK Tryz.prog .slice (Builtin.append_ #[T.sl_uint8, T.sl_uint8] T.sl_uint8 #[(.slice s_1.1.a s_1.1.n s_1.1.c), (.slice v_3.a v_3.n v_3.c)]) (fun (v_4 : Sl) (h : Heap) =>
  X_2 (v_4, IntKind.i64.wrap (s_1.2 + 1)) h) h))
  else
  R (.slice s_1.1.a s_1.1.n s_1.1.c) h) (⟨none, 0, 0⟩, 0) h
def tags_eight.ann : Ann := (.seq .leaf (.seq (.seq .leaf (.block (.loop [(2, .slice), (4, (.int .i64))] (.seq .leaf (.seq (.cond .leaf .leaf) (.seq (.block (.seq .leaf .leaf)) .leaf)))))) (.seq .leaf .leaf)))
theorem tags_eight.eq (n0 : Int) (R : Value → Heap → Prop) (h : Heap) : tags_eight.body n0 R h = evFn Tryz.prog Tryz.f43 tags_eight.ann [(.int .i64 n0)] R h := by kernel_rfl
theorem tags_eight.calls {n0 : Int} {R : Value → Heap → Prop} {h : Heap} (H : tags_eight.body n0 R h) : HC Tryz.prog F.tags_eight #[(.int .i64 n0)] R h :=
  evFn_sound mixed Tryz.func43 (by kernel_rfl) (tags_eight.eq n0 R h ▸ H)

/-! zugzwang/tags.number -/
def tags_number.body (n0 : Int) (R : Value → Heap → Prop) (h : Heap) : Prop :=
  newK h (zerosOf Tryz.prog T.api_Tag) T.api_Tag (fun (t_1 : Option Addr) h =>
  sliceArrK t_1 32 none none none (sizeOfT Tryz.prog T.uint8) (fun (v2 : Sl) =>
  ((newSlK h 8 #[.int .u8 122, .int .u8 117, .int .u8 103, .int .u8 122, .int .u8 119, .int .u8 97, .int .u8 110, .int .u8 103] T.uint8 (fun v3 h =>
  ((opK Tryz.prog .slice (convert T.sl_uint8 T.sl_uint8 (.slice v3.a v3.n v3.c)) (fun (v4 : Sl) h =>
  callK Tryz.prog .slice F.tags_eight #[.int .i64 n0] (fun (v5 : Sl) h =>
  newSlK h 2 #[.slice v4.a v4.n v4.c, .slice v5.a v5.n v5.c] T.sl_uint8 (fun v6 h =>
  callK Tryz.prog .slice F.slices_Concat_byte_byte #[.slice v6.a v6.n v6.c] (fun (v7 : Sl) h =>
  opK Tryz.prog (.int .i64) (Builtin.copy_ #[T.sl_uint8, T.sl_uint8] T.int #[.slice v2.a v2.n v2.c, .slice v7.a v7.n v7.c]) (fun (v8 : Int) h =>
  loadAggK (sizeOfT Tryz.prog T.api_Tag) h t_1 (fun (v9 : Array Value) =>
  storeAggK (sizeOfT Tryz.prog T.api_Tag) h t_1 v9 (fun h =>
  quietK Tryz.prog .agg (Instr.loadAt T.api_Tag (.pointer t_1)) (fun r10 =>
  R (.agg r10) h) h))) h) h)) h) h) ∧
  (callK Tryz.prog .slice F.tags_eight #[.int .i64 n0] (fun (v11 : Sl) h =>
  opK Tryz.prog .slice (convert T.sl_uint8 T.sl_uint8 (.slice v3.a v3.n v3.c)) (fun (v12 : Sl) h =>
  newSlK h 2 #[.slice v12.a v12.n v12.c, .slice v11.a v11.n v11.c] T.sl_uint8 (fun v13 h =>
  callK Tryz.prog .slice F.slices_Concat_byte_byte #[.slice v13.a v13.n v13.c] (fun (v14 : Sl) h =>
  opK Tryz.prog (.int .i64) (Builtin.copy_ #[T.sl_uint8, T.sl_uint8] T.int #[.slice v2.a v2.n v2.c, .slice v14.a v14.n v14.c]) (fun (v15 : Int) h =>
  loadAggK (sizeOfT Tryz.prog T.api_Tag) h t_1 (fun (v16 : Array Value) =>
  storeAggK (sizeOfT Tryz.prog T.api_Tag) h t_1 v16 (fun h =>
  quietK Tryz.prog .agg (Instr.loadAt T.api_Tag (.pointer t_1)) (fun r17 =>
  R (.agg r17) h) h))) h) h)) h) h)))) ∧
  (callK Tryz.prog .slice F.tags_eight #[.int .i64 n0] (fun (v18 : Sl) h =>
  newSlK h 8 #[.int .u8 122, .int .u8 117, .int .u8 103, .int .u8 122, .int .u8 119, .int .u8 97, .int .u8 110, .int .u8 103] T.uint8 (fun v19 h =>
  opK Tryz.prog .slice (convert T.sl_uint8 T.sl_uint8 (.slice v19.a v19.n v19.c)) (fun (v20 : Sl) h =>
  newSlK h 2 #[.slice v20.a v20.n v20.c, .slice v18.a v18.n v18.c] T.sl_uint8 (fun v21 h =>
  callK Tryz.prog .slice F.slices_Concat_byte_byte #[.slice v21.a v21.n v21.c] (fun (v22 : Sl) h =>
  opK Tryz.prog (.int .i64) (Builtin.copy_ #[T.sl_uint8, T.sl_uint8] T.int #[.slice v2.a v2.n v2.c, .slice v22.a v22.n v22.c]) (fun (v23 : Int) h =>
  loadAggK (sizeOfT Tryz.prog T.api_Tag) h t_1 (fun (v24 : Array Value) =>
  storeAggK (sizeOfT Tryz.prog T.api_Tag) h t_1 v24 (fun h =>
  quietK Tryz.prog .agg (Instr.loadAt T.api_Tag (.pointer t_1)) (fun r25 =>
  R (.agg r25) h) h))) h) h)) h)) h))))
def tags_number.ann : Ann := (.seq .leaf (.seq (.any (.loc 0 (.loc 3 (.alt 1 (.alt 2 (.last 4 (.last 5 (.last 6 (.last 7 .done)))) (.last 4 (.last 2 (.last 5 (.last 6 (.last 7 .done)))))) (.last 4 (.last 1 (.last 2 (.last 5 (.last 6 (.last 7 .done)))))))))) (.seq .leaf .leaf)))
theorem tags_number.eq (n0 : Int) (R : Value → Heap → Prop) (h : Heap) : tags_number.body n0 R h = evFn Tryz.prog Tryz.f59 tags_number.ann [.int .i64 n0] R h := by kernel_rfl
theorem tags_number.calls {n0 : Int} {R : Value → Heap → Prop} {h : Heap} (H : tags_number.body n0 R h) : HC Tryz.prog F.tags_number #[.int .i64 n0] R h :=
  evFn_sound mixed Tryz.func59 (by kernel_rfl) (tags_number.eq n0 R h ▸ H)

/-! (zugzwang/tags.book).ask -/
def tags_book_ask.body (b0 : Array Value) (x1 : Array Value) (R : Value → Heap → Prop) (h : Heap) : Prop :=
  newK h b0 T.tags_book (fun (b_1 : Option Addr) h =>
  newK h x1 T.tags_thing (fun (x_2 : Option Addr) h =>
  newK h (zerosOf Tryz.prog T.api_Tag) T.api_Tag (fun (v3 : Option Addr) h =>
  fldK b_1 0 (fun (a_4 : Addr) =>
  loadK .map h ((some a_4)) (fun (v5 : Option Nat) =>
  loadAggK (sizeOfT Tryz.prog T.tags_thing) h x_2 (fun (v6 : Array Value) =>
  quietK Tryz.prog (Kd.pair (.int .i64) .bool) (Instr.lookup T.map_atags_thing_int (.map v5) (.agg v6) true) (fun (v7 : Int × Bool) =>
  if (!v7.2) = true then
  fldK b_1 0 (fun (a_8 : Addr) =>
  loadK .map h ((some a_8)) (fun (v9 : Option Nat) =>
  quietK Tryz.prog (.int .i64) (Builtin.len_ #[T.map_atags_thing_int] T.int #[(.map v9)]) (fun (v10 : Int) =>
  fldK b_1 0 (fun (a_11 : Addr) =>
  loadK .map h ((some a_11)) (fun (v12 : Option Nat) =>
  loadAggK (sizeOfT Tryz.prog T.tags_thing) h x_2 (fun (v13 : Array Value) =>
  unitK Tryz.prog (Instr.mapUpdate T.map_atags_thing_int (.map v12) (.agg v13) (.int .i64 v10)) (fun h =>
  callK Tryz.prog .agg F.tags_number #[.int .i64 v10] (fun (v14 : Array Value) h =>
  storeAggK (sizeOfT Tryz.prog T.api_Tag) h v3 v14 (fun h =>
  quietK Tryz.prog .agg (Instr.loadAt T.api_Tag (.pointer v3)) (fun r15 =>
  R (.agg r15) h) h)) h) h)))) h))
  else
  callK Tryz.prog .agg F.tags_number #[.int .i64 v7.1] (fun (v16 : Array Value) h =>
  storeAggK (sizeOfT Tryz.prog T.api_Tag) h v3 v16 (fun h =>
  quietK Tryz.prog .agg (Instr.loadAt T.api_Tag (.pointer v3)) (fun r17 =>
  R (.agg r17) h) h)) h) h))))))
def tags_book_ask.ann : Ann := (.seq .leaf (.seq .leaf (.seq (.seq .leaf (.cond (.seq .leaf .leaf) .leaf)) (.seq .leaf .leaf))))
theorem tags_book_ask.eq (b0 : Array Value) (x1 : Array Value) (R : Value → Heap → Prop) (h : Heap) : tags_book_ask.body b0 x1 R h = evFn Tryz.prog Tryz.f44 tags_book_ask.ann [.agg b0, .agg x1] R h := by kernel_rfl
theorem tags_book_ask.calls {b0 : Array Value} {x1 : Array Value} {R : Value → Heap → Prop} {h : Heap} (H : tags_book_ask.body b0 x1 R h) : HC Tryz.prog F.tags_book_ask #[.agg b0, .agg x1] R h :=
  evFn_sound mixed Tryz.func44 (by kernel_rfl) (tags_book_ask.eq b0 x1 R h ▸ H)

/-! (*zugzwang/tags.Maker).Sum -/
def tags_Maker_Sum.body (m0 : Option Addr) (rows1 : Sl) (R : Value → Heap → Prop) (h : Heap) : Prop :=
  newK h (zerosOf Tryz.prog T.api_Tag) T.api_Tag (fun (v1 : Option Addr) h =>
  callK Tryz.prog .bool F.tags_Maker_there #[.pointer m0] (fun (v2 : Bool) h =>
  if (!v2) = true then
  buildK Tryz.prog (Instr.build T.api_Tag #[]) (fun (v3 : Array Value) =>
  storeAggK (sizeOfT Tryz.prog T.api_Tag) h v1 v3 (fun h =>
  quietK Tryz.prog .agg (Instr.loadAt T.api_Tag (.pointer v1)) (fun r4 =>
  R (.agg r4) h) h))
  else
  derefK m0 (fun (a_5 : Addr) =>
  fldK ((some a_5)) 1 (fun (a_6 : Addr) =>
  loadK .bool h ((some a_6)) (fun (v7 : Bool) =>
  if v7 = true then
  callK Tryz.prog .agg F.digest_Of #[.slice rows1.a rows1.n rows1.c] (fun (v8 : Array Value) h =>
  storeAggK (sizeOfT Tryz.prog T.api_Tag) h v1 v8 (fun h =>
  quietK Tryz.prog .agg (Instr.loadAt T.api_Tag (.pointer v1)) (fun r9 =>
  R (.agg r9) h) h)) h
  else
  derefK m0 (fun (a_10 : Addr) =>
  fldK ((some a_10)) 0 (fun (a_11 : Addr) =>
  loadAggK (sizeOfT Tryz.prog T.tags_book) h ((some a_11)) (fun (v12 : Array Value) =>
  callK Tryz.prog .slice F.slices_Concat_byte_byte #[.slice rows1.a rows1.n rows1.c] (fun (v13 : Sl) h =>
  stillAggK (sizeOfT Tryz.prog T.tags_book) h ((some a_11)) v12 ∧
  opK Tryz.prog .str (convert T.sl_uint8 T.string (.slice v13.a v13.n v13.c)) (fun (v14 : ByteArray) h =>
  buildK Tryz.prog (Instr.build T.tags_thing #[(0, (.int .u8 115)), (2, (.string v14))]) (fun (v15 : Array Value) =>
  callK Tryz.prog .agg F.tags_book_ask #[.agg v12, .agg v15] (fun (v16 : Array Value) h =>
  storeAggK (sizeOfT Tryz.prog T.api_Tag) h v1 v16 (fun h =>
  quietK Tryz.prog .agg (Instr.loadAt T.api_Tag (.pointer v1)) (fun r17 =>
  R (.agg r17) h) h)) h)) h) h))))))) h)
def tags_Maker_Sum.ann : Ann := (.seq .leaf (.seq (.block (.seq .leaf (.cond (.seq .leaf .leaf) (.seq .leaf (.cond (.seq .leaf .leaf) .leaf))))) (.seq (.any (.loc 0 (.loc 1 (.loc 2 (.loc 4 (.st 3 768 (.last 5 (.last 6 (.loc 7 (.last 8 (.last 9 .done))))))))))) .leaf)))
theorem tags_Maker_Sum.eq (m0 : Option Addr) (rows1 : Sl) (R : Value → Heap → Prop) (h : Heap) : tags_Maker_Sum.body m0 rows1 R h = evFn Tryz.prog Tryz.f67 tags_Maker_Sum.ann [.pointer m0, .slice rows1.a rows1.n rows1.c] R h := by kernel_rfl
theorem tags_Maker_Sum.calls {m0 : Option Addr} {rows1 : Sl} {R : Value → Heap → Prop} {h : Heap} (H : tags_Maker_Sum.body m0 rows1 R h) : HC Tryz.prog F.tags_Maker_Sum #[.pointer m0, .slice rows1.a rows1.n rows1.c] R h :=
  evFn_sound mixed Tryz.func67 (by kernel_rfl) (tags_Maker_Sum.eq m0 rows1 R h ▸ H)

/-! zugzwang/commit.Cover -/
def commit_Cover.body (m0 : Option Addr) (nonce1 : Array Value) (rows2 : Sl) (R : Value → Heap → Prop) (h : Heap) : Prop :=
  newK h nonce1 T.api_Tag (fun (nonce_1 : Option Addr) h =>
  newK h (zerosOf Tryz.prog T.api_Tag) T.api_Tag (fun (t_2 : Option Addr) h =>
  callK Tryz.prog .ptr F.tags_Maker_Copy #[.pointer m0] (fun (v3 : Option Addr) h =>
  if v3.isNone = true then
  loadAggK (sizeOfT Tryz.prog T.api_Tag) h t_2 (fun (v4 : Array Value) =>
  storeAggK (sizeOfT Tryz.prog T.api_Tag) h t_2 v4 (fun h =>
  quietK Tryz.prog .agg (Instr.loadAt T.api_Tag (.pointer t_2)) (fun r5 =>
  R (.tuple #[.agg r5, .int .i64 1]) h) h))
  else
  loadAggK (sizeOfT Tryz.prog T.api_Tag) h nonce_1 (fun (v6 : Array Value) =>
  callK Tryz.prog .ptr F.codec_New #[] (fun (v7 : Option Addr) h =>
  stillAggK (sizeOfT Tryz.prog T.api_Tag) h nonce_1 v6 ∧
  buildK Tryz.prog (Instr.build T.commit_text #[(0, (.pointer v7))]) (fun (v8 : Array Value) =>
  callK Tryz.prog (Kd.pair .slice (.int .i64)) F.commit_text_rows #[.agg v8, .agg v6, .slice rows2.a rows2.n rows2.c] (fun (v9 : Sl × Int) h =>
  if (v9.2 != 0) = true then
  loadAggK (sizeOfT Tryz.prog T.api_Tag) h t_2 (fun (v10 : Array Value) =>
  storeAggK (sizeOfT Tryz.prog T.api_Tag) h t_2 v10 (fun h =>
  quietK Tryz.prog .agg (Instr.loadAt T.api_Tag (.pointer t_2)) (fun r11 =>
  R (.tuple #[.agg r11, .int .i64 v9.2]) h) h))
  else
  newSlK h 4 #[.int .u8 104, .int .u8 105, .int .u8 100, .int .u8 101] T.uint8 (fun v12 h =>
  opK Tryz.prog .slice (convert T.sl_uint8 T.sl_uint8 (.slice v12.a v12.n v12.c)) (fun (v13 : Sl) h =>
  newSlK h 2 #[.slice v13.a v13.n v13.c, .slice v9.1.a v9.1.n v9.1.c] T.sl_uint8 (fun v14 h =>
  callK Tryz.prog .agg F.tags_Maker_Sum #[.pointer m0, .slice v14.a v14.n v14.c] (fun (v15 : Array Value) h =>
  storeAggK (sizeOfT Tryz.prog T.api_Tag) h t_2 v15 (fun h =>
  quietK Tryz.prog .agg (Instr.loadAt T.api_Tag (.pointer t_2)) (fun r16 =>
  R (.tuple #[.agg r16, .int .i64 0]) h) h)) h)) h)) h)) h)) h))
def commit_Cover.ann : Ann := (.seq .leaf (.seq (.seq .leaf (.cond (.seq .leaf .leaf) .leaf)) (.seq (.any (.loc 3 (.st 2 1008 (.last 0 (.loc 1 (.last 4 (.loc 5 (.loc 6 (.loc 7 (.loc 8 (.loc 9 .done))))))))))) (.seq (.seq .leaf (.cond (.seq .leaf .leaf) .leaf)) (.seq .leaf .leaf)))))
theorem commit_Cover.eq (m0 : Option Addr) (nonce1 : Array Value) (rows2 : Sl) (R : Value → Heap → Prop) (h : Heap) : commit_Cover.body m0 nonce1 rows2 R h = evFn Tryz.prog Tryz.f53 commit_Cover.ann [.pointer m0, .agg nonce1, .slice rows2.a rows2.n rows2.c] R h := by kernel_rfl
theorem commit_Cover.calls {m0 : Option Addr} {nonce1 : Array Value} {rows2 : Sl} {R : Value → Heap → Prop} {h : Heap} (H : commit_Cover.body m0 nonce1 rows2 R h) : HC Tryz.prog F.commit_Cover #[.pointer m0, .agg nonce1, .slice rows2.a rows2.n rows2.c] R h :=
  evFn_sound mixed Tryz.func53 (by kernel_rfl) (commit_Cover.eq m0 nonce1 rows2 R h ▸ H)

/-! zugzwang/commit.some -/
def commit_some.body (m0 : Option Addr) (is1 : Bool) (nonce2 : Array Value) (rows3 : Sl) (R : Value → Heap → Prop) (h : Heap) : Prop :=
  newK h nonce2 T.api_Tag (fun (nonce_1 : Option Addr) h =>
  newK h (zerosOf Tryz.prog T.api_Tag) T.api_Tag (fun (t_2 : Option Addr) h =>
  callK Tryz.prog .ptr F.tags_Maker_Copy #[.pointer m0] (fun (v3 : Option Addr) h =>
  if v3.isNone = true then
  loadAggK (sizeOfT Tryz.prog T.api_Tag) h t_2 (fun (v4 : Array Value) =>
  storeAggK (sizeOfT Tryz.prog T.api_Tag) h t_2 v4 (fun h =>
  quietK Tryz.prog .agg (Instr.loadAt T.api_Tag (.pointer t_2)) (fun r5 =>
  R (.tuple #[.agg r5, .int .i64 1]) h) h))
  else
  if (!is1) = true then
  loadAggK (sizeOfT Tryz.prog T.api_Tag) h t_2 (fun (v6 : Array Value) =>
  storeAggK (sizeOfT Tryz.prog T.api_Tag) h t_2 v6 (fun h =>
  quietK Tryz.prog .agg (Instr.loadAt T.api_Tag (.pointer t_2)) (fun r7 =>
  R (.tuple #[.agg r7, .int .i64 2]) h) h))
  else
  loadAggK (sizeOfT Tryz.prog T.api_Tag) h nonce_1 (fun (v8 : Array Value) =>
  callK Tryz.prog (Kd.pair .agg (.int .i64)) F.commit_Cover #[.pointer m0, .agg v8, .slice rows3.a rows3.n rows3.c] (fun (v9 : Array Value × Int) h =>
  storeAggK (sizeOfT Tryz.prog T.api_Tag) h t_2 v9.1 (fun h =>
  quietK Tryz.prog .agg (Instr.loadAt T.api_Tag (.pointer t_2)) (fun r10 =>
  R (.tuple #[.agg r10, .int .i64 v9.2]) h) h)) h)) h))
def commit_some.ann : Ann := (.seq .leaf (.seq (.block (.seq .leaf (.cond (.seq .leaf .leaf) (.seq .leaf (.cond (.seq .leaf .leaf) .leaf))))) (.seq .leaf .leaf)))
theorem commit_some.eq (m0 : Option Addr) (is1 : Bool) (nonce2 : Array Value) (rows3 : Sl) (R : Value → Heap → Prop) (h : Heap) : commit_some.body m0 is1 nonce2 rows3 R h = evFn Tryz.prog Tryz.f36 commit_some.ann [.pointer m0, .bool is1, .agg nonce2, .slice rows3.a rows3.n rows3.c] R h := by kernel_rfl
theorem commit_some.calls {m0 : Option Addr} {is1 : Bool} {nonce2 : Array Value} {rows3 : Sl} {R : Value → Heap → Prop} {h : Heap} (H : commit_some.body m0 is1 nonce2 rows3 R h) : HC Tryz.prog F.commit_some #[.pointer m0, .bool is1, .agg nonce2, .slice rows3.a rows3.n rows3.c] R h :=
  evFn_sound mixed Tryz.func36 (by kernel_rfl) (commit_some.eq m0 is1 nonce2 rows3 R h ▸ H)

/-! zugzwang/commit.Move -/
def commit_Move.body (m0 : Option Addr) (game1 : Array Value) (number2 : Int) (x3 : Array Value) (nonce4 : Array Value) (R : Value → Heap → Prop) (h : Heap) : Prop :=
  newK h game1 T.api_Tag (fun (game_1 : Option Addr) h =>
  newK h x3 T.api_Move (fun (x_2 : Option Addr) h =>
  newK h nonce4 T.api_Tag (fun (nonce_3 : Option Addr) h =>
  newK h (zerosOf Tryz.prog T.api_Tag) T.api_Tag (fun (v4 : Option Addr) h =>
  joinW (fun (s_5 : Bool) h =>
  shiftK 24
  (shiftK 16
  (shiftK 8
  (newSlK h 4 #[(.int .u8 (IntKind.u8.wrap (Int.fdiv number2 (2 ^ min (Int.toNat 24) (IntKind.bits .i64))))), (.int .u8 (IntKind.u8.wrap (Int.fdiv number2 (2 ^ min (Int.toNat 16) (IntKind.bits .i64))))), (.int .u8 (IntKind.u8.wrap (Int.fdiv number2 (2 ^ min (Int.toNat 8) (IntKind.bits .i64))))), (.int .u8 (IntKind.u8.wrap number2))] T.uint8 (fun v6 h =>
  sliceArrK game_1 32 none none none (sizeOfT Tryz.prog T.uint8) (fun (v7 : Sl) =>
  fldK x_2 0 (fun (a_8 : Addr) =>
  fldK x_2 1 (fun (a_9 : Addr) =>
  fldK x_2 2 (fun (a_10 : Addr) =>
  loadAggK (sizeOfT Tryz.prog T.api_Tag) h nonce_3 (fun (v11 : Array Value) =>
  loadK (.int .i64) h ((some a_8)) (fun (v12 : Int) =>
  loadK (.int .i64) h ((some a_9)) (fun (v13 : Int) =>
  loadK (.int .i64) h ((some a_10)) (fun (v14 : Int) =>
  ((newSlK h 4 #[.int .u8 109, .int .u8 111, .int .u8 118, .int .u8 101] T.uint8 (fun v15 h =>
  ((opK Tryz.prog .slice (convert T.sl_uint8 T.sl_uint8 (.slice v15.a v15.n v15.c)) (fun (v16 : Sl) h =>
  newSlK h 3 #[(.int .u8 (IntKind.u8.wrap v12)), (.int .u8 (IntKind.u8.wrap v13)), (.int .u8 (IntKind.u8.wrap v14))] T.uint8 (fun v17 h =>
  newSlK h 4 #[.slice v16.a v16.n v16.c, .slice v7.a v7.n v7.c, .slice v6.a v6.n v6.c, .slice v17.a v17.n v17.c] T.sl_uint8 (fun v18 h =>
  callK Tryz.prog (Kd.pair .agg (.int .i64)) F.commit_some #[.pointer m0, .bool s_5, .agg v11, .slice v18.a v18.n v18.c] (fun (v19 : Array Value × Int) h =>
  storeAggK (sizeOfT Tryz.prog T.api_Tag) h v4 v19.1 (fun h =>
  quietK Tryz.prog .agg (Instr.loadAt T.api_Tag (.pointer v4)) (fun r20 =>
  R (.tuple #[.agg r20, .int .i64 v19.2]) h) h)) h))) h) ∧
  (newSlK h 3 #[(.int .u8 (IntKind.u8.wrap v12)), (.int .u8 (IntKind.u8.wrap v13)), (.int .u8 (IntKind.u8.wrap v14))] T.uint8 (fun v21 h =>
  opK Tryz.prog .slice (convert T.sl_uint8 T.sl_uint8 (.slice v15.a v15.n v15.c)) (fun (v22 : Sl) h =>
  newSlK h 4 #[.slice v22.a v22.n v22.c, .slice v7.a v7.n v7.c, .slice v6.a v6.n v6.c, .slice v21.a v21.n v21.c] T.sl_uint8 (fun v23 h =>
  callK Tryz.prog (Kd.pair .agg (.int .i64)) F.commit_some #[.pointer m0, .bool s_5, .agg v11, .slice v23.a v23.n v23.c] (fun (v24 : Array Value × Int) h =>
  storeAggK (sizeOfT Tryz.prog T.api_Tag) h v4 v24.1 (fun h =>
  quietK Tryz.prog .agg (Instr.loadAt T.api_Tag (.pointer v4)) (fun r25 =>
  R (.tuple #[.agg r25, .int .i64 v24.2]) h) h)) h)) h))))) ∧
  (newSlK h 3 #[(.int .u8 (IntKind.u8.wrap v12)), (.int .u8 (IntKind.u8.wrap v13)), (.int .u8 (IntKind.u8.wrap v14))] T.uint8 (fun v26 h =>
  newSlK h 4 #[.int .u8 109, .int .u8 111, .int .u8 118, .int .u8 101] T.uint8 (fun v27 h =>
  opK Tryz.prog .slice (convert T.sl_uint8 T.sl_uint8 (.slice v27.a v27.n v27.c)) (fun (v28 : Sl) h =>
  newSlK h 4 #[.slice v28.a v28.n v28.c, .slice v7.a v7.n v7.c, .slice v6.a v6.n v6.c, .slice v26.a v26.n v26.c] T.sl_uint8 (fun v29 h =>
  callK Tryz.prog (Kd.pair .agg (.int .i64)) F.commit_some #[.pointer m0, .bool s_5, .agg v11, .slice v29.a v29.n v29.c] (fun (v30 : Array Value × Int) h =>
  storeAggK (sizeOfT Tryz.prog T.api_Tag) h v4 v30.1 (fun h =>
  quietK Tryz.prog .agg (Instr.loadAt T.api_Tag (.pointer v4)) (fun r31 =>
  R (.tuple #[.agg r31, .int .i64 v30.2]) h) h)) h)) h)))))))))))))))))
  (fun J_32 =>
  if (decide (number2 ≥ 0)) = true then
  if (decide (number2 ≤ 4294967295)) = true then
  loadAggK (sizeOfT Tryz.prog T.api_Move) h x_2 (fun (v33 : Array Value) =>
  buildK Tryz.prog (Instr.build T.api_Body #[(0, (.int .i64 1)), (1, (.agg v33))]) (fun (v34 : Array Value) =>
  callK Tryz.prog .bool F.msg_Body #[.agg v34] (fun (v35 : Bool) h =>
  J_32 v35 h) h))
  else
  J_32 false h
  else
  J_32 false h)))))
def commit_Move.ann : Ann := (.seq .leaf (.join [(12, .bool)] .leaf (.seq .leaf (.seq (.any (.loc 0 (.loc 1 (.loc 5 (.loc 6 (.loc 7 (.loc 10 (.loc 13 (.st 2 8126464 (.st 8 8323584 (.loc 9 (.st 11 8327168 (.loc 12 (.st 14 8355840 (.loc 15 (.alt 3 (.alt 4 (.last 16 (.last 17 (.last 18 (.loc 19 (.loc 20 (.last 21 (.loc 22 .done))))))) (.last 16 (.last 4 (.last 17 (.last 18 (.loc 19 (.loc 20 (.last 21 (.loc 22 .done))))))))) (.last 16 (.last 3 (.last 4 (.last 17 (.last 18 (.loc 19 (.loc 20 (.last 21 (.loc 22 .done))))))))))))))))))))))))) .leaf))))
theorem commit_Move.eq (m0 : Option Addr) (game1 : Array Value) (number2 : Int) (x3 : Array Value) (nonce4 : Array Value) (R : Value → Heap → Prop) (h : Heap) : commit_Move.body m0 game1 number2 x3 nonce4 R h = evFn Tryz.prog Tryz.f21 commit_Move.ann [.pointer m0, .agg game1, .int .i64 number2, .agg x3, .agg nonce4] R h := by kernel_rfl
theorem commit_Move.calls {m0 : Option Addr} {game1 : Array Value} {number2 : Int} {x3 : Array Value} {nonce4 : Array Value} {R : Value → Heap → Prop} {h : Heap} (H : commit_Move.body m0 game1 number2 x3 nonce4 R h) : HC Tryz.prog F.commit_Move #[.pointer m0, .agg game1, .int .i64 number2, .agg x3, .agg nonce4] R h :=
  evFn_sound mixed Tryz.func21 (by kernel_rfl) (commit_Move.eq m0 game1 number2 x3 nonce4 R h ▸ H)

/-! zugzwang/seal.Make -/
def seal_Make.body (m0 : Option Addr) (game1 : Array Value) (number2 : Int) (x3 : Array Value) (nonce4 : Array Value) (R : Value → Heap → Prop) (h : Heap) : Prop :=
  newK h game1 T.api_Tag (fun (game_1 : Option Addr) h =>
  newK h x3 T.api_Move (fun (x_2 : Option Addr) h =>
  newK h nonce4 T.api_Tag (fun (nonce_3 : Option Addr) h =>
  newK h (zerosOf Tryz.prog T.api_Body) T.api_Body (fun (seal_4 : Option Addr) h =>
  newK h (zerosOf Tryz.prog T.api_Body) T.api_Body (fun (open_5 : Option Addr) h =>
  loadAggK (sizeOfT Tryz.prog T.api_Tag) h game_1 (fun (v6 : Array Value) =>
  loadAggK (sizeOfT Tryz.prog T.api_Move) h x_2 (fun (v7 : Array Value) =>
  loadAggK (sizeOfT Tryz.prog T.api_Tag) h nonce_3 (fun (v8 : Array Value) =>
  callK Tryz.prog (Kd.pair .agg (.int .i64)) F.commit_Move #[.pointer m0, .agg v6, .int .i64 number2, .agg v7, .agg v8] (fun (v9 : Array Value × Int) h =>
  newK h (zerosOf Tryz.prog T.api_Tag) T.api_Tag (fun (t_10 : Option Addr) h =>
  storeAggK (sizeOfT Tryz.prog T.api_Tag) h t_10 v9.1 (fun h =>
  if (v9.2 != 0) = true then
  loadAggK (sizeOfT Tryz.prog T.api_Body) h seal_4 (fun (v11 : Array Value) =>
  loadAggK (sizeOfT Tryz.prog T.api_Body) h open_5 (fun (v12 : Array Value) =>
  storeAggK (sizeOfT Tryz.prog T.api_Body) h seal_4 v11 (fun h =>
  stillAggK (sizeOfT Tryz.prog T.api_Body) h open_5 v12 ∧
  storeAggK (sizeOfT Tryz.prog T.api_Body) h open_5 v12 (fun h =>
  quietK Tryz.prog .agg (Instr.loadAt T.api_Body (.pointer seal_4)) (fun r13 =>
  quietK Tryz.prog .agg (Instr.loadAt T.api_Body (.pointer open_5)) (fun r14 =>
  R (.tuple #[.agg r13, .agg r14, .int .i64 v9.2]) h) h) h))))
  else
  loadAggK (sizeOfT Tryz.prog T.api_Tag) h t_10 (fun (v15 : Array Value) =>
  buildK Tryz.prog (Instr.build T.api_Body #[(0, (.int .i64 5)), (4, (.agg v15))]) (fun (v16 : Array Value) =>
  loadAggK (sizeOfT Tryz.prog T.api_Move) h x_2 (fun (v17 : Array Value) =>
  loadAggK (sizeOfT Tryz.prog T.api_Tag) h nonce_3 (fun (v18 : Array Value) =>
  buildK Tryz.prog (Instr.build T.api_Body #[(0, (.int .i64 7)), (1, (.agg v17)), (5, (.agg v18))]) (fun (v19 : Array Value) =>
  storeAggK (sizeOfT Tryz.prog T.api_Body) h seal_4 v16 (fun h =>
  stillAggK (sizeOfT Tryz.prog T.api_Tag) h nonce_3 v18 ∧
  stillAggK (sizeOfT Tryz.prog T.api_Move) h x_2 v17 ∧
  storeAggK (sizeOfT Tryz.prog T.api_Body) h open_5 v19 (fun h =>
  quietK Tryz.prog .agg (Instr.loadAt T.api_Body (.pointer seal_4)) (fun r20 =>
  quietK Tryz.prog .agg (Instr.loadAt T.api_Body (.pointer open_5)) (fun r21 =>
  R (.tuple #[.agg r20, .agg r21, .int .i64 0]) h) h) h)))))))))) h))))))))
def seal_Make.ann : Ann := (.seq .leaf (.seq .leaf (.seq (.seq .leaf (.cond (.seq (.any (.loc 2 (.st 0 56 (.st 1 48 (.last 3 (.last 4 (.loc 5 .done))))))) .leaf) .leaf)) (.seq (.any (.st 0 226 (.loc 1 (.st 2 208 (.st 3 208 (.loc 4 (.last 5 (.last 6 (.loc 7 .done))))))))) .leaf))))
theorem seal_Make.eq (m0 : Option Addr) (game1 : Array Value) (number2 : Int) (x3 : Array Value) (nonce4 : Array Value) (R : Value → Heap → Prop) (h : Heap) : seal_Make.body m0 game1 number2 x3 nonce4 R h = evFn Tryz.prog Tryz.f5 seal_Make.ann [.pointer m0, .agg game1, .int .i64 number2, .agg x3, .agg nonce4] R h := by kernel_rfl
theorem seal_Make.calls {m0 : Option Addr} {game1 : Array Value} {number2 : Int} {x3 : Array Value} {nonce4 : Array Value} {R : Value → Heap → Prop} {h : Heap} (H : seal_Make.body m0 game1 number2 x3 nonce4 R h) : HC Tryz.prog F.seal_Make #[.pointer m0, .agg game1, .int .i64 number2, .agg x3, .agg nonce4] R h :=
  evFn_sound mixed Tryz.func5 (by kernel_rfl) (seal_Make.eq m0 game1 number2 x3 nonce4 R h ▸ H)

/-! zugzwang/tags.New -/
def tags_New.body (real0 : Bool) (seed1 : Sl) (R : Value → Heap → Prop) (h : Heap) : Prop :=
  opK Tryz.prog .map (Instr.makeMap T.map_atags_thing_int none) (fun (v_1 : Option Nat) (h : Heap) =>
  buildK Tryz.prog (Instr.build T.tags_book #[(0, (.map v_1))]) (fun (v_2 : Array Value) =>
  callK Tryz.prog .slice F.slices_Clone_byte_byte #[(.slice seed1.a seed1.n seed1.c)] (fun (v_3 : Sl) (h : Heap) =>
  buildK Tryz.prog (Instr.build T.tags_Maker #[(0, (.agg v_2)), (1, (.bool real0)), (2, (.slice v_3.a v_3.n v_3.c))]) (fun (v_4 : Array Value) =>
  newK h v_4 T.tags_Maker (fun (v_5 : Option Addr) (h : Heap) =>
  R (.pointer v_5) h))) h)) h
def tags_New.ann : Ann := (.seq .leaf (.seq .leaf .leaf))
theorem tags_New.eq (real0 : Bool) (seed1 : Sl) (R : Value → Heap → Prop) (h : Heap) : tags_New.body real0 seed1 R h = evFn Tryz.prog Tryz.f6 tags_New.ann [(.bool real0), (.slice seed1.a seed1.n seed1.c)] R h := by kernel_rfl
theorem tags_New.calls {real0 : Bool} {seed1 : Sl} {R : Value → Heap → Prop} {h : Heap} (H : tags_New.body real0 seed1 R h) : HC Tryz.prog F.tags_New #[(.bool real0), (.slice seed1.a seed1.n seed1.c)] R h :=
  evFn_sound mixed Tryz.func6 (by kernel_rfl) (tags_New.eq real0 seed1 R h ▸ H)

/-! zugzwang/zugzwangref18.move -/
def ref18_move.body (m0 : Array Value) (R : Value → Heap → Prop) (h : Heap) : Prop :=
  newK h m0 T.api_Move (fun (m_1 : Option Addr) (h : Heap) =>
  fldK m_1 0 (fun (a_2 : Addr) =>
  loadK (.int .i64) h ((some a_2)) (fun (v_3 : Int) =>
  if (decide (v_3 ≥ 0)) = true then
  fldK m_1 0 (fun (a_4 : Addr) =>
  loadK (.int .i64) h ((some a_4)) (fun (v_5 : Int) =>
  if (decide (v_5 < 64)) = true then
  fldK m_1 1 (fun (a_6 : Addr) =>
  loadK (.int .i64) h ((some a_6)) (fun (v_7 : Int) =>
  if (decide (v_7 ≥ 0)) = true then
  fldK m_1 1 (fun (a_8 : Addr) =>
  loadK (.int .i64) h ((some a_8)) (fun (v_9 : Int) =>
  if (decide (v_9 < 64)) = true then
  fldK m_1 2 (fun (a_10 : Addr) =>
  loadK (.int .i64) h ((some a_10)) (fun (v_11 : Int) =>
  if (v_11 == 0) = true then
  R (.bool true) h
  else
  fldK m_1 2 (fun (a_12 : Addr) =>
  loadK (.int .i64) h ((some a_12)) (fun (v_13 : Int) =>
  if (decide (v_13 ≥ 2)) = true then
  fldK m_1 2 (fun (a_14 : Addr) =>
  loadK (.int .i64) h ((some a_14)) (fun (v_15 : Int) =>
  R (.bool (decide (v_15 ≤ 5))) h))
  else
  R (.bool false) h))))
  else
  R (.bool false) h))
  else
  R (.bool false) h))
  else
  R (.bool false) h))
  else
  R (.bool false) h)))
def ref18_move.ann : Ann := (.seq .leaf (.seq .leaf .leaf))
theorem ref18_move.eq (m0 : Array Value) (R : Value → Heap → Prop) (h : Heap) : ref18_move.body m0 R h = evFn Tryz.prog Tryz.f54 ref18_move.ann [(.agg m0)] R h := by kernel_rfl
theorem ref18_move.calls {m0 : Array Value} {R : Value → Heap → Prop} {h : Heap} (H : ref18_move.body m0 R h) : HC Tryz.prog F.ref18_move #[(.agg m0)] R h :=
  evFn_sound mixed Tryz.func54 (by kernel_rfl) (ref18_move.eq m0 R h ▸ H)

/-! zugzwang/zugzwangref18.Body -/
def ref18_Body.body (b0 : Array Value) (R : Value → Heap → Prop) (h : Heap) : Prop :=
  newK h b0 T.api_Body (fun (b_1 : Option Addr) h =>
  fldK b_1 0 (fun (a_2 : Addr) =>
  loadK (.int .i64) h ((some a_2)) (fun (v3 : Int) =>
  buildK Tryz.prog (Instr.build T.api_Body #[(0, (.int .i64 v3))]) (fun (v4 : Array Value) =>
  newK h (zerosOf Tryz.prog T.api_Body) T.api_Body (fun (has_5 : Option Addr) h =>
  storeAggK (sizeOfT Tryz.prog T.api_Body) h has_5 v4 (fun h =>
  joinW (fun (s_6 : Unit) h =>
  loadAggK (sizeOfT Tryz.prog T.api_Body) h has_5 (fun (v7 : Array Value) =>
  loadAggK (sizeOfT Tryz.prog T.api_Body) h b_1 (fun (v8 : Array Value) =>
  eqK Tryz.prog (binSem .eql T.api_Body (.tmp 47) (.tmp 48) (.agg v7) (.agg v8)) (fun (v9 : Bool) =>
  if v9 = true then
  fldK b_1 0 (fun (a_10 : Addr) =>
  loadK (.int .i64) h ((some a_10)) (fun (v11 : Int) =>
  if (v11 != 1) = true then
  fldK b_1 0 (fun (a_12 : Addr) =>
  loadK (.int .i64) h ((some a_12)) (fun (v13 : Int) =>
  if (v13 != 7) = true then
  R (.bool true) h
  else
  fldK b_1 1 (fun (a_14 : Addr) =>
  loadAggK (sizeOfT Tryz.prog T.api_Move) h ((some a_14)) (fun (v15 : Array Value) =>
  callK Tryz.prog .bool F.ref18_move #[.agg v15] (fun (v16 : Bool) h =>
  R (.bool v16) h) h))))
  else
  fldK b_1 1 (fun (a_17 : Addr) =>
  loadAggK (sizeOfT Tryz.prog T.api_Move) h ((some a_17)) (fun (v18 : Array Value) =>
  callK Tryz.prog .bool F.ref18_move #[.agg v18] (fun (v19 : Bool) h =>
  R (.bool v19) h) h))))
  else
  R (.bool false) h))))
  (fun J_20 =>
  fldK b_1 0 (fun (a_21 : Addr) =>
  loadK (.int .i64) h ((some a_21)) (fun (v22 : Int) =>
  if (v22 == 1) = true then
  fldK b_1 1 (fun (a_23 : Addr) =>
  loadAggK (sizeOfT Tryz.prog T.api_Move) h ((some a_23)) (fun (v24 : Array Value) =>
  fldK has_5 1 (fun (a_25 : Addr) =>
  storeAggK (sizeOfT Tryz.prog T.api_Move) h ((some a_25)) v24 (fun h =>
  fldK b_1 4 (fun (a_26 : Addr) =>
  loadK .bool h ((some a_26)) (fun (v27 : Bool) =>
  fldK has_5 4 (fun (a_28 : Addr) =>
  storeK h ((some a_28)) (.bool v27) (fun h =>
  J_20 () h))))))))
  else
  if (v22 == 2) = true then
  fldK b_1 5 (fun (a_29 : Addr) =>
  loadK (.int .i64) h ((some a_29)) (fun (v30 : Int) =>
  fldK has_5 5 (fun (a_31 : Addr) =>
  storeK h ((some a_31)) (.int .i64 v30) (fun h =>
  fldK b_1 5 (fun (a_32 : Addr) =>
  loadK (.int .i64) h ((some a_32)) (fun (v33 : Int) =>
  if (v33 != 6) = true then
  fldK b_1 5 (fun (a_34 : Addr) =>
  loadK (.int .i64) h ((some a_34)) (fun (v35 : Int) =>
  if (v35 != 7) = true then
  R (.bool false) h
  else
  J_20 () h))
  else
  J_20 () h))))))
  else
  joinW (fun (s_36 : Bool) h =>
  if s_36 = true then
  J_20 () h
  else
  if (v22 == 5) = true then
  fldK b_1 6 (fun (a_37 : Addr) =>
  loadAggK (sizeOfT Tryz.prog T.api_Tag) h ((some a_37)) (fun (v38 : Array Value) =>
  fldK has_5 6 (fun (a_39 : Addr) =>
  storeAggK (sizeOfT Tryz.prog T.api_Tag) h ((some a_39)) v38 (fun h =>
  J_20 () h))))
  else
  if (v22 == 7) = true then
  fldK b_1 1 (fun (a_40 : Addr) =>
  loadAggK (sizeOfT Tryz.prog T.api_Move) h ((some a_40)) (fun (v41 : Array Value) =>
  fldK has_5 1 (fun (a_42 : Addr) =>
  storeAggK (sizeOfT Tryz.prog T.api_Move) h ((some a_42)) v41 (fun h =>
  fldK b_1 38 (fun (a_43 : Addr) =>
  loadAggK (sizeOfT Tryz.prog T.api_Tag) h ((some a_43)) (fun (v44 : Array Value) =>
  fldK has_5 38 (fun (a_45 : Addr) =>
  storeAggK (sizeOfT Tryz.prog T.api_Tag) h ((some a_45)) v44 (fun h =>
  J_20 () h))))))))
  else
  R (.bool false) h)
  (fun J_46 =>
  if (v22 == 3) = true then
  J_46 (v22 == 3) h
  else
  if (v22 == 4) = true then
  J_46 (v22 == 4) h
  else
  J_46 (v22 == 6) h))))))))))
def ref18_Body.ann : Ann := (.seq .leaf (.seq .leaf (.join [] (.seq .leaf (.block (.seq .leaf (.cond (.seq .leaf .leaf) (.seq .leaf (.cond (.seq .leaf (.seq .leaf (.cond (.seq .leaf .leaf) .leaf))) (.join [(30, .bool)] (.seq .leaf (.cond .leaf (.seq .leaf (.cond .leaf .leaf)))) (.cond .leaf (.seq .leaf (.cond .leaf (.seq .leaf (.cond (.seq .leaf .leaf) (.seq .leaf .leaf))))))))))))) (.seq .leaf .leaf))))
theorem ref18_Body.eq (b0 : Array Value) (R : Value → Heap → Prop) (h : Heap) : ref18_Body.body b0 R h = evFn Tryz.prog Tryz.f37 ref18_Body.ann [.agg b0] R h := by kernel_rfl
theorem ref18_Body.calls {b0 : Array Value} {R : Value → Heap → Prop} {h : Heap} (H : ref18_Body.body b0 R h) : HC Tryz.prog F.ref18_Body #[.agg b0] R h :=
  evFn_sound mixed Tryz.func37 (by kernel_rfl) (ref18_Body.eq b0 R h ▸ H)

/-! zugzwang/zugzwangref22.raw -/
def ref22_raw.body (t0 : Array Value) (R : Value → Heap → Prop) (h : Heap) : Prop :=
  newK h t0 T.api_Tag (fun (t_1 : Option Addr) (h : Heap) =>
  loopW (fun X_3 (s_2 : Sl × Int) (h : Heap) =>
  if (decide (s_2.2 < 32)) = true then
  idxArrK t_1 32 s_2.2 (sizeOfT Tryz.prog T.uint8) (fun (a_4 : Addr) =>
  loadK (.int .u8) h ((some a_4)) (fun (v_5 : Int) =>
  newSlK h 1 #[(.int .u8 v_5)] T.uint8 (fun (v_6 : Sl) (h : Heap) =>
  opK Tryz.prog .slice (Builtin.append_ #[T.sl_uint8, T.sl_uint8] T.sl_uint8 #[(.slice s_2.1.a s_2.1.n s_2.1.c), (.slice v_6.a v_6.n v_6.c)]) (fun (v_7 : Sl) (h : Heap) =>
  X_3 (v_7, IntKind.i64.wrap (s_2.2 + 1)) h) h)))
  else
  R (.slice s_2.1.a s_2.1.n s_2.1.c) h) (⟨none, 0, 0⟩, 0) h)
def ref22_raw.ann : Ann := (.seq .leaf (.seq .leaf (.seq (.seq .leaf (.block (.loop [(3, .slice), (4, (.int .i64))] (.seq (.seq .leaf (.cond .leaf .leaf)) (.seq (.block .leaf) .leaf))))) (.seq .leaf .leaf))))
theorem ref22_raw.eq (t0 : Array Value) (R : Value → Heap → Prop) (h : Heap) : ref22_raw.body t0 R h = evFn Tryz.prog Tryz.f39 ref22_raw.ann [(.agg t0)] R h := by kernel_rfl
theorem ref22_raw.calls {t0 : Array Value} {R : Value → Heap → Prop} {h : Heap} (H : ref22_raw.body t0 R h) : HC Tryz.prog F.ref22_raw #[(.agg t0)] R h :=
  evFn_sound mixed Tryz.func39 (by kernel_rfl) (ref22_raw.eq t0 R h ▸ H)

/-! zugzwang/zugzwangref17.Four -/
def ref17_Four.body (n0 : Int) (R : Value → Heap → Prop) (h : Heap) : Prop :=
  shiftK 24
  (shiftK 16
  (shiftK 8
  (newSlK h 4 #[(.int .u8 (IntKind.u8.wrap (Int.fdiv n0 (2 ^ min (Int.toNat 24) (IntKind.bits .i64))))), (.int .u8 (IntKind.u8.wrap (Int.fdiv n0 (2 ^ min (Int.toNat 16) (IntKind.bits .i64))))), (.int .u8 (IntKind.u8.wrap (Int.fdiv n0 (2 ^ min (Int.toNat 8) (IntKind.bits .i64))))), (.int .u8 (IntKind.u8.wrap n0))] T.uint8 (fun (v_1 : Sl) (h : Heap) =>
  R (.slice v_1.a v_1.n v_1.c) h))))
def ref17_Four.ann : Ann := (.seq .leaf (.seq .leaf .leaf))
theorem ref17_Four.eq (n0 : Int) (R : Value → Heap → Prop) (h : Heap) : ref17_Four.body n0 R h = evFn Tryz.prog Tryz.f40 ref17_Four.ann [(.int .i64 n0)] R h := by kernel_rfl
theorem ref17_Four.calls {n0 : Int} {R : Value → Heap → Prop} {h : Heap} (H : ref17_Four.body n0 R h) : HC Tryz.prog F.ref17_Four #[(.int .i64 n0)] R h :=
  evFn_sound mixed Tryz.func40 (by kernel_rfl) (ref17_Four.eq n0 R h ▸ H)

/-! zugzwang/zugzwangref02.filled -/
def ref02_filled.body (b0 : Sl) (R : Value → Heap → Prop) (h : Heap) : Prop :=
  newSlK h 0 #[] T.uint8 (fun v1 h =>
  opK Tryz.prog .slice (Builtin.append_ #[T.sl_uint8, T.sl_uint8] T.sl_uint8 #[.slice v1.a v1.n v1.c, .slice b0.a b0.n b0.c]) (fun (v2 : Sl) h =>
  newSlK h 1 #[.int .u8 128] T.uint8 (fun v3 h =>
  opK Tryz.prog .slice (Builtin.append_ #[T.sl_uint8, T.sl_uint8] T.sl_uint8 #[.slice v2.a v2.n v2.c, .slice v3.a v3.n v3.c]) (fun (v4 : Sl) h =>
  loopW (fun X_6 (s_5 : Sl) (h : Heap) =>
  divK 64
  (if ((Int.tmod ((s_5.n : Int)) 64) != 56) = true then
  newSlK h 1 #[.int .u8 0] T.uint8 (fun v7 h =>
  opK Tryz.prog .slice (Builtin.append_ #[T.sl_uint8, T.sl_uint8] T.sl_uint8 #[.slice s_5.a s_5.n s_5.c, .slice v7.a v7.n v7.c]) (fun (v8 : Sl) h =>
  X_6 v8 h) h)
  else
  loopW (fun X_10 (s_9 : Sl × Int) (h : Heap) =>
  if (decide (s_9.2 ≥ 0)) = true then
  shiftK (IntKind.i64.wrap (8 * s_9.2))
  (newSlK h 1 #[(.int .u8 (IntKind.u8.wrap (Int.fdiv (IntKind.i64.wrap (8 * ((b0.n : Int)))) (2 ^ min (Int.toNat (IntKind.i64.wrap (8 * s_9.2))) (IntKind.bits .i64)))))] T.uint8 (fun v11 h =>
  opK Tryz.prog .slice (Builtin.append_ #[T.sl_uint8, T.sl_uint8] T.sl_uint8 #[.slice s_9.1.a s_9.1.n s_9.1.c, .slice v11.a v11.n v11.c]) (fun (v12 : Sl) h =>
  X_10 (v12, IntKind.i64.wrap (s_9.2 - 1)) h) h))
  else
  R (.slice s_9.1.a s_9.1.n s_9.1.c) h) (s_5, 7) h)) v4 h) h)) h)
def ref02_filled.ann : Ann := (.seq .leaf (.seq .leaf (.seq (.block (.loop [(3, .slice)] (.seq (.seq .leaf (.cond .leaf .leaf)) (.block .leaf)))) (.seq .leaf (.seq (.seq .leaf (.block (.loop [(3, .slice), (5, (.int .i64))] (.seq (.seq .leaf (.cond .leaf .leaf)) (.seq (.block .leaf) .leaf))))) (.seq .leaf .leaf))))))
theorem ref02_filled.eq (b0 : Sl) (R : Value → Heap → Prop) (h : Heap) : ref02_filled.body b0 R h = evFn Tryz.prog Tryz.f79 ref02_filled.ann [.slice b0.a b0.n b0.c] R h := by kernel_rfl
theorem ref02_filled.calls {b0 : Sl} {R : Value → Heap → Prop} {h : Heap} (H : ref02_filled.body b0 R h) : HC Tryz.prog F.ref02_filled #[.slice b0.a b0.n b0.c] R h :=
  evFn_sound mixed Tryz.func79 (by kernel_rfl) (ref02_filled.eq b0 R h ▸ H)

/-! zugzwang/zugzwangref02.constants -/
def ref02_constants.body  (R : Value → Heap → Prop) (h : Heap) : Prop :=
  newSlK h 64 #[.int .u32 1116352408, .int .u32 1899447441, .int .u32 3049323471, .int .u32 3921009573, .int .u32 961987163, .int .u32 1508970993, .int .u32 2453635748, .int .u32 2870763221, .int .u32 3624381080, .int .u32 310598401, .int .u32 607225278, .int .u32 1426881987, .int .u32 1925078388, .int .u32 2162078206, .int .u32 2614888103, .int .u32 3248222580, .int .u32 3835390401, .int .u32 4022224774, .int .u32 264347078, .int .u32 604807628, .int .u32 770255983, .int .u32 1249150122, .int .u32 1555081692, .int .u32 1996064986, .int .u32 2554220882, .int .u32 2821834349, .int .u32 2952996808, .int .u32 3210313671, .int .u32 3336571891, .int .u32 3584528711, .int .u32 113926993, .int .u32 338241895, .int .u32 666307205, .int .u32 773529912, .int .u32 1294757372, .int .u32 1396182291, .int .u32 1695183700, .int .u32 1986661051, .int .u32 2177026350, .int .u32 2456956037, .int .u32 2730485921, .int .u32 2820302411, .int .u32 3259730800, .int .u32 3345764771, .int .u32 3516065817, .int .u32 3600352804, .int .u32 4094571909, .int .u32 275423344, .int .u32 430227734, .int .u32 506948616, .int .u32 659060556, .int .u32 883997877, .int .u32 958139571, .int .u32 1322822218, .int .u32 1537002063, .int .u32 1747873779, .int .u32 1955562222, .int .u32 2024104815, .int .u32 2227730452, .int .u32 2361852424, .int .u32 2428436474, .int .u32 2756734187, .int .u32 3204031479, .int .u32 3329325298] T.uint32 (fun v1 h =>
  R (.slice v1.a v1.n v1.c) h)
def ref02_constants.ann : Ann := (.seq .leaf (.seq .leaf .leaf))
theorem ref02_constants.eq  (R : Value → Heap → Prop) (h : Heap) : ref02_constants.body  R h = evFn Tryz.prog Tryz.f80 ref02_constants.ann [] R h := by kernel_rfl
theorem ref02_constants.calls  {R : Value → Heap → Prop} {h : Heap} (H : ref02_constants.body  R h) : HC Tryz.prog F.ref02_constants #[] R h :=
  evFn_sound mixed Tryz.func80 (by kernel_rfl) (ref02_constants.eq  R h ▸ H)

/-! zugzwang/zugzwangref02.begin -/
def ref02_begin.body  (R : Value → Heap → Prop) (h : Heap) : Prop :=
  newSlK h 8 #[(.int .u32 1779033703), (.int .u32 3144134277), (.int .u32 1013904242), (.int .u32 2773480762), (.int .u32 1359893119), (.int .u32 2600822924), (.int .u32 528734635), (.int .u32 1541459225)] T.uint32 (fun (v_1 : Sl) (h : Heap) =>
  R (.slice v_1.a v_1.n v_1.c) h)
def ref02_begin.ann : Ann := (.seq .leaf (.seq .leaf .leaf))
theorem ref02_begin.eq  (R : Value → Heap → Prop) (h : Heap) : ref02_begin.body  R h = evFn Tryz.prog Tryz.f81 ref02_begin.ann [] R h := by kernel_rfl
theorem ref02_begin.calls  {R : Value → Heap → Prop} {h : Heap} (H : ref02_begin.body  R h) : HC Tryz.prog F.ref02_begin #[] R h :=
  evFn_sound mixed Tryz.func81 (by kernel_rfl) (ref02_begin.eq  R h ▸ H)

/-! zugzwang/zugzwangref01.Sum -/
def ref01_Sum.body (words0 : Sl) (R : Value → Heap → Prop) (h : Heap) : Prop :=
  loopW (fun X_2 (s_1 : Int × Int) (h : Heap) =>
  if (decide (s_1.2 < ((words0.n : Int)))) = true then
  idxK words0 s_1.2 (sizeOfT Tryz.prog T.uint32) (fun (a_3 : Addr) =>
  loadK (.int .u32) h ((some a_3)) (fun (v_4 : Int) =>
  divK 4294967296
  (X_2 (Int.tmod (IntKind.u64.wrap (s_1.1 + (IntKind.u64.wrap v_4))) 4294967296, IntKind.i64.wrap (s_1.2 + 1)) h)))
  else
  R (.int .u32 (IntKind.u32.wrap s_1.1)) h) (0, 0) h
def ref01_Sum.ann : Ann := (.seq .leaf (.seq .leaf (.seq (.seq .leaf (.block (.loop [(3, (.int .u64)), (4, (.int .i64))] (.seq (.seq .leaf (.cond .leaf .leaf)) (.seq (.block .leaf) .leaf))))) (.seq .leaf .leaf))))
theorem ref01_Sum.eq (words0 : Sl) (R : Value → Heap → Prop) (h : Heap) : ref01_Sum.body words0 R h = evFn Tryz.prog Tryz.f83 ref01_Sum.ann [(.slice words0.a words0.n words0.c)] R h := by kernel_rfl
theorem ref01_Sum.calls {words0 : Sl} {R : Value → Heap → Prop} {h : Heap} (H : ref01_Sum.body words0 R h) : HC Tryz.prog F.ref01_Sum #[(.slice words0.a words0.n words0.c)] R h :=
  evFn_sound mixed Tryz.func83 (by kernel_rfl) (ref01_Sum.eq words0 R h ▸ H)

/-! zugzwang/zugzwangref01.Words -/
def ref01_Words.body (b0 : Sl) (R : Value → Heap → Prop) (h : Heap) : Prop :=
  divK 4
  (if ((Int.tmod ((b0.n : Int)) 4) != 0) = true then
  R (.tuple #[.slice none 0 0, .int .i64 4]) h
  else
  loopW (fun X_2 (s_1 : Sl × Int) (h : Heap) =>
  if (decide (s_1.2 < ((b0.n : Int)))) = true then
  idxK b0 s_1.2 (sizeOfT Tryz.prog T.uint8) (fun (a_3 : Addr) =>
  idxK b0 (IntKind.i64.wrap (s_1.2 + 1)) (sizeOfT Tryz.prog T.uint8) (fun (a_4 : Addr) =>
  idxK b0 (IntKind.i64.wrap (s_1.2 + 2)) (sizeOfT Tryz.prog T.uint8) (fun (a_5 : Addr) =>
  idxK b0 (IntKind.i64.wrap (s_1.2 + 3)) (sizeOfT Tryz.prog T.uint8) (fun (a_6 : Addr) =>
  loadK (.int .u8) h ((some a_3)) (fun (v7 : Int) =>
  loadK (.int .u8) h ((some a_4)) (fun (v8 : Int) =>
  loadK (.int .u8) h ((some a_5)) (fun (v9 : Int) =>
  loadK (.int .u8) h ((some a_6)) (fun (v10 : Int) =>
  newSlK h 1 #[(.int .u32 (IntKind.u32.wrap ((IntKind.u32.wrap ((IntKind.u32.wrap ((IntKind.u32.wrap ((IntKind.u32.wrap v7) * 16777216)) + (IntKind.u32.wrap ((IntKind.u32.wrap v8) * 65536)))) + (IntKind.u32.wrap ((IntKind.u32.wrap v9) * 256)))) + (IntKind.u32.wrap v10))))] T.uint32 (fun v11 h =>
  opK Tryz.prog .slice (Builtin.append_ #[T.sl_uint32, T.sl_uint32] T.sl_uint32 #[.slice s_1.1.a s_1.1.n s_1.1.c, .slice v11.a v11.n v11.c]) (fun (v12 : Sl) h =>
  X_2 (v12, IntKind.i64.wrap (s_1.2 + 4)) h) h)))))))))
  else
  R (.tuple #[.slice s_1.1.a s_1.1.n s_1.1.c, .int .i64 0]) h) (⟨none, 0, 0⟩, 0) h)
def ref01_Words.ann : Ann := (.seq .leaf (.seq (.seq .leaf (.cond (.seq .leaf .leaf) .leaf)) (.seq .leaf (.seq (.seq .leaf (.block (.loop [(4, .slice), (5, (.int .i64))] (.seq (.seq .leaf (.cond .leaf .leaf)) (.seq (.block (.any (.loc 0 (.loc 1 (.loc 2 (.loc 3 (.loc 7 (.loc 8 (.loc 9 (.loc 10 (.loc 15 (.loc 16 (.loc 17 (.loc 18 (.loc 23 (.loc 24 (.loc 25 (.loc 26 (.st 4 8057274464 (.loc 5 (.loc 6 (.st 11 8057286656 (.loc 12 (.loc 13 (.loc 14 (.st 19 8060403712 (.loc 20 (.loc 21 (.loc 22 (.st 27 8321499136 (.loc 28 (.loc 29 (.last 30 (.last 31 (.loc 32 .done))))))))))))))))))))))))))))))))))) .leaf))))) (.seq .leaf .leaf)))))
theorem ref01_Words.eq (b0 : Sl) (R : Value → Heap → Prop) (h : Heap) : ref01_Words.body b0 R h = evFn Tryz.prog Tryz.f103 ref01_Words.ann [.slice b0.a b0.n b0.c] R h := by kernel_rfl
theorem ref01_Words.calls {b0 : Sl} {R : Value → Heap → Prop} {h : Heap} (H : ref01_Words.body b0 R h) : HC Tryz.prog F.ref01_Words #[.slice b0.a b0.n b0.c] R h :=
  evFn_sound mixed Tryz.func103 (by kernel_rfl) (ref01_Words.eq b0 R h ▸ H)

/-! zugzwang/zugzwangref01.bit -/
def ref01_bit.body (x0 : Int) (k1 : Int) (R : Value → Heap → Prop) (h : Heap) : Prop :=
  shiftK k1
  (divK 2
  (R (.bool ((Int.tmod (Int.fdiv x0 (2 ^ min (Int.toNat k1) (IntKind.bits .u32))) 2) == 1)) h))
def ref01_bit.ann : Ann := (.seq .leaf (.seq .leaf .leaf))
theorem ref01_bit.eq (x0 : Int) (k1 : Int) (R : Value → Heap → Prop) (h : Heap) : ref01_bit.body x0 k1 R h = evFn Tryz.prog Tryz.f105 ref01_bit.ann [(.int .u32 x0), (.int .i64 k1)] R h := by kernel_rfl
theorem ref01_bit.calls {x0 : Int} {k1 : Int} {R : Value → Heap → Prop} {h : Heap} (H : ref01_bit.body x0 k1 R h) : HC Tryz.prog F.ref01_bit #[(.int .u32 x0), (.int .i64 k1)] R h :=
  evFn_sound mixed Tryz.func105 (by kernel_rfl) (ref01_bit.eq x0 k1 R h ▸ H)

/-! zugzwang/zugzwangref01.low -/
def ref01_low.body (n0 : Int) (R : Value → Heap → Prop) (h : Heap) : Prop :=
  divK 32
  (if (decide ((Int.tmod n0 32) < 0)) = true then
  R (.int .i64 (IntKind.i64.wrap ((Int.tmod n0 32) + 32))) h
  else
  R (.int .i64 (Int.tmod n0 32)) h)
def ref01_low.ann : Ann := (.seq .leaf (.seq .leaf (.seq (.seq .leaf (.cond .leaf .leaf)) (.seq .leaf .leaf))))
theorem ref01_low.eq (n0 : Int) (R : Value → Heap → Prop) (h : Heap) : ref01_low.body n0 R h = evFn Tryz.prog Tryz.f106 ref01_low.ann [(.int .i64 n0)] R h := by kernel_rfl
theorem ref01_low.calls {n0 : Int} {R : Value → Heap → Prop} {h : Heap} (H : ref01_low.body n0 R h) : HC Tryz.prog F.ref01_low #[(.int .i64 n0)] R h :=
  evFn_sound mixed Tryz.func106 (by kernel_rfl) (ref01_low.eq n0 R h ▸ H)

/-! zugzwang/zugzwangref01.place -/
def ref01_place.body (k0 : Int) (one1 : Bool) (R : Value → Heap → Prop) (h : Heap) : Prop :=
  if one1 = true then
  shiftK k0
  (R (.int .u32 (IntKind.u32.wrap (1 * 2 ^ min (Int.toNat k0) (IntKind.bits .u32)))) h)
  else
  R (.int .u32 0) h
def ref01_place.ann : Ann := (.seq .leaf (.seq (.seq .leaf (.cond (.seq .leaf .leaf) .leaf)) (.seq .leaf .leaf)))
theorem ref01_place.eq (k0 : Int) (one1 : Bool) (R : Value → Heap → Prop) (h : Heap) : ref01_place.body k0 one1 R h = evFn Tryz.prog Tryz.f107 ref01_place.ann [(.int .i64 k0), (.bool one1)] R h := by kernel_rfl
theorem ref01_place.calls {k0 : Int} {one1 : Bool} {R : Value → Heap → Prop} {h : Heap} (H : ref01_place.body k0 one1 R h) : HC Tryz.prog F.ref01_place #[(.int .i64 k0), (.bool one1)] R h :=
  evFn_sound mixed Tryz.func107 (by kernel_rfl) (ref01_place.eq k0 one1 R h ▸ H)

/-! zugzwang/zugzwangref01.Mix -/
def ref01_Mix.body (x0 : Int) (turns1 : Sl) (R : Value → Heap → Prop) (h : Heap) : Prop :=
  loopW (fun X_2 (s_1 : Int × Int) (h : Heap) =>
  if (decide (s_1.2 < 32)) = true then
  loopW (fun X_4 (s_3 : Bool × Int) (h : Heap) =>
  if (decide (s_3.2 < ((turns1.n : Int)))) = true then
  idxK turns1 s_3.2 (sizeOfT Tryz.prog T.int) (fun (a_5 : Addr) =>
  loadK (.int .i64) h ((some a_5)) (fun (v_6 : Int) =>
  callK Tryz.prog (.int .i64) F.ref01_low #[(.int .i64 v_6)] (fun (v_7 : Int) (h : Heap) =>
  divK 32
  (callK Tryz.prog .bool F.ref01_bit #[(.int .u32 x0), (.int .i64 (Int.tmod (IntKind.i64.wrap (s_1.2 + v_7)) 32))] (fun (v_8 : Bool) (h : Heap) =>
  if v_8 = true then
  X_4 (!s_3.1, IntKind.i64.wrap (s_3.2 + 1)) h
  else
  X_4 (s_3.1, IntKind.i64.wrap (s_3.2 + 1)) h) h)) h))
  else
  callK Tryz.prog (.int .u32) F.ref01_place #[(.int .i64 s_1.2), (.bool s_3.1)] (fun (v_9 : Int) (h : Heap) =>
  X_2 (IntKind.u32.wrap (s_1.1 + v_9), IntKind.i64.wrap (s_1.2 + 1)) h) h) (false, 0) h
  else
  R (.int .u32 s_1.1) h) (0, 0) h
def ref01_Mix.ann : Ann := (.seq .leaf (.seq .leaf (.seq (.seq .leaf (.block (.loop [(5, (.int .u32)), (6, (.int .i64))] (.seq (.seq .leaf (.cond .leaf .leaf)) (.seq (.block (.seq .leaf (.seq (.seq .leaf (.block (.loop [(7, .bool), (8, (.int .i64))] (.seq (.seq .leaf (.cond .leaf .leaf)) (.seq (.block (.seq .leaf (.cond .leaf .leaf))) .leaf))))) .leaf))) .leaf))))) (.seq .leaf .leaf))))
theorem ref01_Mix.eq (x0 : Int) (turns1 : Sl) (R : Value → Heap → Prop) (h : Heap) : ref01_Mix.body x0 turns1 R h = evFn Tryz.prog Tryz.f84 ref01_Mix.ann [(.int .u32 x0), (.slice turns1.a turns1.n turns1.c)] R h := by kernel_rfl
theorem ref01_Mix.calls {x0 : Int} {turns1 : Sl} {R : Value → Heap → Prop} {h : Heap} (H : ref01_Mix.body x0 turns1 R h) : HC Tryz.prog F.ref01_Mix #[(.int .u32 x0), (.slice turns1.a turns1.n turns1.c)] R h :=
  evFn_sound mixed Tryz.func84 (by kernel_rfl) (ref01_Mix.eq x0 turns1 R h ▸ H)

/-! zugzwang/zugzwangref01.Shift -/
def ref01_Shift.body (x0 : Int) (n1 : Int) (R : Value → Heap → Prop) (h : Heap) : Prop :=
  if (decide (n1 < 0)) = true then
  R (.int .u32 x0) h
  else
  loopW (fun X_2 (s_1 : Int × Int) (h : Heap) =>
  if (decide (s_1.2 < 32)) = true then
  if (decide (n1 < (IntKind.i64.wrap (32 - s_1.2)))) = true then
  callK Tryz.prog .bool F.ref01_bit #[(.int .u32 x0), (.int .i64 (IntKind.i64.wrap (s_1.2 + n1)))] (fun (v_3 : Bool) (h : Heap) =>
  callK Tryz.prog (.int .u32) F.ref01_place #[(.int .i64 s_1.2), (.bool v_3)] (fun (v_4 : Int) (h : Heap) =>
  X_2 (IntKind.u32.wrap (s_1.1 + v_4), IntKind.i64.wrap (s_1.2 + 1)) h) h) h
  else
  callK Tryz.prog (.int .u32) F.ref01_place #[(.int .i64 s_1.2), (.bool false)] (fun (v_5 : Int) (h : Heap) =>
  X_2 (IntKind.u32.wrap (s_1.1 + v_5), IntKind.i64.wrap (s_1.2 + 1)) h) h
  else
  R (.int .u32 s_1.1) h) (0, 0) h
def ref01_Shift.ann : Ann := (.seq .leaf (.seq (.seq .leaf (.cond (.seq .leaf .leaf) .leaf)) (.seq .leaf (.seq (.seq .leaf (.block (.loop [(5, (.int .u32)), (6, (.int .i64))] (.seq (.seq .leaf (.cond .leaf .leaf)) (.seq (.block .leaf) .leaf))))) (.seq .leaf .leaf)))))
theorem ref01_Shift.eq (x0 : Int) (n1 : Int) (R : Value → Heap → Prop) (h : Heap) : ref01_Shift.body x0 n1 R h = evFn Tryz.prog Tryz.f113 ref01_Shift.ann [(.int .u32 x0), (.int .i64 n1)] R h := by kernel_rfl
theorem ref01_Shift.calls {x0 : Int} {n1 : Int} {R : Value → Heap → Prop} {h : Heap} (H : ref01_Shift.body x0 n1 R h) : HC Tryz.prog F.ref01_Shift #[(.int .u32 x0), (.int .i64 n1)] R h :=
  evFn_sound mixed Tryz.func113 (by kernel_rfl) (ref01_Shift.eq x0 n1 R h ▸ H)

/-! zugzwang/zugzwangref02.small -/
def ref02_small.body (x0 : Int) (i1 : Int) (j2 : Int) (k3 : Int) (R : Value → Heap → Prop) (h : Heap) : Prop :=
  newSlK h 2 #[(.int .i64 i1), (.int .i64 j2)] T.int (fun (v_1 : Sl) (h : Heap) =>
  callK Tryz.prog (.int .u32) F.ref01_Mix #[(.int .u32 x0), (.slice v_1.a v_1.n v_1.c)] (fun (v_2 : Int) (h : Heap) =>
  callK Tryz.prog (.int .u32) F.ref01_Shift #[(.int .u32 x0), (.int .i64 k3)] (fun (v_3 : Int) (h : Heap) =>
  R (.int .u32 (IntKind.u32.wrap (BitVec.ofInt (IntKind.bits .u32) v_2 ^^^ BitVec.ofInt (IntKind.bits .u32) v_3).toNat)) h) h) h)
def ref02_small.ann : Ann := (.seq .leaf (.seq .leaf .leaf))
theorem ref02_small.eq (x0 : Int) (i1 : Int) (j2 : Int) (k3 : Int) (R : Value → Heap → Prop) (h : Heap) : ref02_small.body x0 i1 j2 k3 R h = evFn Tryz.prog Tryz.f104 ref02_small.ann [(.int .u32 x0), (.int .i64 i1), (.int .i64 j2), (.int .i64 k3)] R h := by kernel_rfl
theorem ref02_small.calls {x0 : Int} {i1 : Int} {j2 : Int} {k3 : Int} {R : Value → Heap → Prop} {h : Heap} (H : ref02_small.body x0 i1 j2 k3 R h) : HC Tryz.prog F.ref02_small #[(.int .u32 x0), (.int .i64 i1), (.int .i64 j2), (.int .i64 k3)] R h :=
  evFn_sound mixed Tryz.func104 (by kernel_rfl) (ref02_small.eq x0 i1 j2 k3 R h ▸ H)

/-! zugzwang/zugzwangref02.schedule -/
def ref02_schedule.body (block0 : Sl) (R : Value → Heap → Prop) (h : Heap) : Prop :=
  callK Tryz.prog (Kd.pair .slice (.int .i64)) F.ref01_Words #[.slice block0.a block0.n block0.c] (fun (v1 : Sl × Int) h =>
  loopW (fun X_3 (s_2 : Sl × Int) (h : Heap) =>
  if (decide (s_2.2 < 64)) = true then
  idxK s_2.1 (IntKind.i64.wrap (s_2.2 - 16)) (sizeOfT Tryz.prog T.uint32) (fun (a_4 : Addr) =>
  idxK s_2.1 (IntKind.i64.wrap (s_2.2 - 15)) (sizeOfT Tryz.prog T.uint32) (fun (a_5 : Addr) =>
  idxK s_2.1 (IntKind.i64.wrap (s_2.2 - 7)) (sizeOfT Tryz.prog T.uint32) (fun (a_6 : Addr) =>
  idxK s_2.1 (IntKind.i64.wrap (s_2.2 - 2)) (sizeOfT Tryz.prog T.uint32) (fun (a_7 : Addr) =>
  loadK (.int .u32) h ((some a_4)) (fun (v8 : Int) =>
  loadK (.int .u32) h ((some a_5)) (fun (v9 : Int) =>
  loadK (.int .u32) h ((some a_6)) (fun (v10 : Int) =>
  loadK (.int .u32) h ((some a_7)) (fun (v11 : Int) =>
  callK Tryz.prog (.int .u32) F.ref02_small #[.int .u32 v9, .int .i64 7, .int .i64 18, .int .i64 3] (fun (v12 : Int) h =>
  stillK (.int .u32) h ((some a_7)) v11 ∧
  stillK (.int .u32) h ((some a_6)) v10 ∧
  stillK (.int .u32) h ((some a_4)) v8 ∧
  callK Tryz.prog (.int .u32) F.ref02_small #[.int .u32 v11, .int .i64 17, .int .i64 19, .int .i64 10] (fun (v13 : Int) h =>
  stillK (.int .u32) h ((some a_6)) v10 ∧
  stillK (.int .u32) h ((some a_4)) v8 ∧
  newSlK h 4 #[.int .u32 v8, .int .u32 v12, .int .u32 v10, .int .u32 v13] T.uint32 (fun v14 h =>
  callK Tryz.prog (.int .u32) F.ref01_Sum #[.slice v14.a v14.n v14.c] (fun (v15 : Int) h =>
  newSlK h 1 #[.int .u32 v15] T.uint32 (fun v16 h =>
  opK Tryz.prog .slice (Builtin.append_ #[T.sl_uint32, T.sl_uint32] T.sl_uint32 #[.slice s_2.1.a s_2.1.n s_2.1.c, .slice v16.a v16.n v16.c]) (fun (v17 : Sl) h =>
  X_3 (v17, IntKind.i64.wrap (s_2.2 + 1)) h) h)) h)) h) h))))))))
  else
  R (.slice s_2.1.a s_2.1.n s_2.1.c) h) (v1.1, 16) h) h
def ref02_schedule.ann : Ann := (.seq .leaf (.seq .leaf (.seq (.seq .leaf (.block (.loop [(3, .slice), (5, (.int .i64))] (.seq (.seq .leaf (.cond .leaf .leaf)) (.seq (.block (.any (.loc 0 (.loc 1 (.loc 2 (.loc 3 (.loc 4 (.loc 6 (.loc 7 (.loc 8 (.loc 9 (.loc 12 (.loc 13 (.loc 14 (.loc 15 (.loc 17 (.loc 18 (.loc 19 (.loc 20 (.st 5 260046848 (.st 10 264243200 (.st 16 260046848 (.st 21 264241152 (.last 11 (.last 22 (.last 23 (.last 24 (.last 25 (.last 26 (.loc 27 .done)))))))))))))))))))))))))))))) .leaf))))) (.seq .leaf .leaf))))
theorem ref02_schedule.eq (block0 : Sl) (R : Value → Heap → Prop) (h : Heap) : ref02_schedule.body block0 R h = evFn Tryz.prog Tryz.f82 ref02_schedule.ann [.slice block0.a block0.n block0.c] R h := by kernel_rfl
theorem ref02_schedule.calls {block0 : Sl} {R : Value → Heap → Prop} {h : Heap} (H : ref02_schedule.body block0 R h) : HC Tryz.prog F.ref02_schedule #[.slice block0.a block0.n block0.c] R h :=
  evFn_sound mixed Tryz.func82 (by kernel_rfl) (ref02_schedule.eq block0 R h ▸ H)

/-! zugzwang/zugzwangref01.Choose -/
def ref01_Choose.body (x0 : Int) (a1 : Int) (b2 : Int) (R : Value → Heap → Prop) (h : Heap) : Prop :=
  loopW (fun X_2 (s_1 : Int × Int) (h : Heap) =>
  if (decide (s_1.2 < 32)) = true then
  callK Tryz.prog .bool F.ref01_bit #[.int .u32 x0, .int .i64 s_1.2] (fun (v3 : Bool) h =>
  if v3 = true then
  callK Tryz.prog .bool F.ref01_bit #[.int .u32 a1, .int .i64 s_1.2] (fun (v4 : Bool) h =>
  if v4 = true then
  callK Tryz.prog (.int .u32) F.ref01_place #[.int .i64 s_1.2, .bool true] (fun (v5 : Int) h =>
  X_2 (IntKind.u32.wrap (s_1.1 + v5), IntKind.i64.wrap (s_1.2 + 1)) h) h
  else
  callK Tryz.prog .bool F.ref01_bit #[.int .u32 x0, .int .i64 s_1.2] (fun (v6 : Bool) h =>
  if (!v6) = true then
  callK Tryz.prog .bool F.ref01_bit #[.int .u32 b2, .int .i64 s_1.2] (fun (v7 : Bool) h =>
  callK Tryz.prog (.int .u32) F.ref01_place #[.int .i64 s_1.2, .bool v7] (fun (v8 : Int) h =>
  X_2 (IntKind.u32.wrap (s_1.1 + v8), IntKind.i64.wrap (s_1.2 + 1)) h) h) h
  else
  callK Tryz.prog (.int .u32) F.ref01_place #[.int .i64 s_1.2, .bool false] (fun (v9 : Int) h =>
  X_2 (IntKind.u32.wrap (s_1.1 + v9), IntKind.i64.wrap (s_1.2 + 1)) h) h) h) h
  else
  callK Tryz.prog .bool F.ref01_bit #[.int .u32 x0, .int .i64 s_1.2] (fun (v10 : Bool) h =>
  if (!v10) = true then
  callK Tryz.prog .bool F.ref01_bit #[.int .u32 b2, .int .i64 s_1.2] (fun (v11 : Bool) h =>
  callK Tryz.prog (.int .u32) F.ref01_place #[.int .i64 s_1.2, .bool v11] (fun (v12 : Int) h =>
  X_2 (IntKind.u32.wrap (s_1.1 + v12), IntKind.i64.wrap (s_1.2 + 1)) h) h) h
  else
  callK Tryz.prog (.int .u32) F.ref01_place #[.int .i64 s_1.2, .bool false] (fun (v13 : Int) h =>
  X_2 (IntKind.u32.wrap (s_1.1 + v13), IntKind.i64.wrap (s_1.2 + 1)) h) h) h) h
  else
  R (.int .u32 s_1.1) h) (0, 0) h
def ref01_Choose.ann : Ann := (.seq .leaf (.seq .leaf (.seq (.seq .leaf (.block (.loop [(7, (.int .u32)), (8, (.int .i64))] (.seq (.seq .leaf (.cond .leaf .leaf)) (.seq (.block .leaf) .leaf))))) (.seq .leaf .leaf))))
theorem ref01_Choose.eq (x0 : Int) (a1 : Int) (b2 : Int) (R : Value → Heap → Prop) (h : Heap) : ref01_Choose.body x0 a1 b2 R h = evFn Tryz.prog Tryz.f85 ref01_Choose.ann [.int .u32 x0, .int .u32 a1, .int .u32 b2] R h := by kernel_rfl
theorem ref01_Choose.calls {x0 : Int} {a1 : Int} {b2 : Int} {R : Value → Heap → Prop} {h : Heap} (H : ref01_Choose.body x0 a1 b2 R h) : HC Tryz.prog F.ref01_Choose #[.int .u32 x0, .int .u32 a1, .int .u32 b2] R h :=
  evFn_sound mixed Tryz.func85 (by kernel_rfl) (ref01_Choose.eq x0 a1 b2 R h ▸ H)

/-! zugzwang/zugzwangref01.Most -/
def ref01_Most.body (words0 : Sl) (R : Value → Heap → Prop) (h : Heap) : Prop :=
  loopW (fun X_2 (s_1 : Int × Int) (h : Heap) =>
  if (decide (s_1.2 < 32)) = true then
  loopW (fun X_4 (s_3 : Int × Int) (h : Heap) =>
  if (decide (s_3.2 < ((words0.n : Int)))) = true then
  idxK words0 s_3.2 (sizeOfT Tryz.prog T.uint32) (fun (a_5 : Addr) =>
  loadK (.int .u32) h ((some a_5)) (fun (v_6 : Int) =>
  callK Tryz.prog .bool F.ref01_bit #[(.int .u32 v_6), (.int .i64 s_1.2)] (fun (v_7 : Bool) (h : Heap) =>
  if v_7 = true then
  X_4 (IntKind.i64.wrap (s_3.1 + 1), IntKind.i64.wrap (s_3.2 + 1)) h
  else
  X_4 (IntKind.i64.wrap (s_3.1 - 1), IntKind.i64.wrap (s_3.2 + 1)) h) h))
  else
  callK Tryz.prog (.int .u32) F.ref01_place #[(.int .i64 s_1.2), (.bool (decide (s_3.1 > 0)))] (fun (v_8 : Int) (h : Heap) =>
  X_2 (IntKind.u32.wrap (s_1.1 + v_8), IntKind.i64.wrap (s_1.2 + 1)) h) h) (0, 0) h
  else
  R (.int .u32 s_1.1) h) (0, 0) h
def ref01_Most.ann : Ann := (.seq .leaf (.seq .leaf (.seq (.seq .leaf (.block (.loop [(3, (.int .u32)), (4, (.int .i64))] (.seq (.seq .leaf (.cond .leaf .leaf)) (.seq (.block (.seq .leaf (.seq (.seq .leaf (.block (.loop [(5, (.int .i64)), (6, (.int .i64))] (.seq (.seq .leaf (.cond .leaf .leaf)) (.seq (.block (.seq .leaf (.cond .leaf .leaf))) .leaf))))) .leaf))) .leaf))))) (.seq .leaf .leaf))))
theorem ref01_Most.eq (words0 : Sl) (R : Value → Heap → Prop) (h : Heap) : ref01_Most.body words0 R h = evFn Tryz.prog Tryz.f86 ref01_Most.ann [(.slice words0.a words0.n words0.c)] R h := by kernel_rfl
theorem ref01_Most.calls {words0 : Sl} {R : Value → Heap → Prop} {h : Heap} (H : ref01_Most.body words0 R h) : HC Tryz.prog F.ref01_Most #[(.slice words0.a words0.n words0.c)] R h :=
  evFn_sound mixed Tryz.func86 (by kernel_rfl) (ref01_Most.eq words0 R h ▸ H)

/-! zugzwang/zugzwangref01.Bytes -/
def ref01_Bytes.body (words0 : Sl) (R : Value → Heap → Prop) (h : Heap) : Prop :=
  loopW (fun X_2 (s_1 : Sl × Int) (h : Heap) =>
  if (decide (s_1.2 < ((words0.n : Int)))) = true then
  loopW (fun X_4 (s_3 : Sl × Int) (h : Heap) =>
  if (decide (s_3.2 ≥ 0)) = true then
  idxK words0 s_1.2 (sizeOfT Tryz.prog T.uint32) (fun (a_5 : Addr) =>
  loadK (.int .u32) h ((some a_5)) (fun (v_6 : Int) =>
  shiftK (IntKind.i64.wrap (8 * s_3.2))
  (divK 256
  (newSlK h 1 #[(.int .u8 (IntKind.u8.wrap (Int.tmod (Int.fdiv v_6 (2 ^ min (Int.toNat (IntKind.i64.wrap (8 * s_3.2))) (IntKind.bits .u32))) 256)))] T.uint8 (fun (v_7 : Sl) (h : Heap) =>
  opK Tryz.prog .slice (Builtin.append_ #[T.sl_uint8, T.sl_uint8] T.sl_uint8 #[(.slice s_3.1.a s_3.1.n s_3.1.c), (.slice v_7.a v_7.n v_7.c)]) (fun (v_8 : Sl) (h : Heap) =>
  X_4 (v_8, IntKind.i64.wrap (s_3.2 - 1)) h) h)))))
  else
  X_2 (s_3.1, IntKind.i64.wrap (s_1.2 + 1)) h) (s_1.1, 3) h
  else
  R (.slice s_1.1.a s_1.1.n s_1.1.c) h) (⟨none, 0, 0⟩, 0) h
def ref01_Bytes.ann : Ann := (.seq .leaf (.seq .leaf (.seq (.seq .leaf (.block (.loop [(3, .slice), (4, (.int .i64))] (.seq (.seq .leaf (.cond .leaf .leaf)) (.seq (.block (.seq .leaf (.block (.loop [(3, .slice), (5, (.int .i64))] (.seq (.seq .leaf (.cond .leaf .leaf)) (.seq (.block .leaf) .leaf)))))) .leaf))))) (.seq .leaf .leaf))))
theorem ref01_Bytes.eq (words0 : Sl) (R : Value → Heap → Prop) (h : Heap) : ref01_Bytes.body words0 R h = evFn Tryz.prog Tryz.f87 ref01_Bytes.ann [(.slice words0.a words0.n words0.c)] R h := by kernel_rfl
theorem ref01_Bytes.calls {words0 : Sl} {R : Value → Heap → Prop} {h : Heap} (H : ref01_Bytes.body words0 R h) : HC Tryz.prog F.ref01_Bytes #[(.slice words0.a words0.n words0.c)] R h :=
  evFn_sound mixed Tryz.func87 (by kernel_rfl) (ref01_Bytes.eq words0 R h ▸ H)

/-! zugzwang/zugzwangref02.Of -/
def ref02_Of.body (b0 : Sl) (R : Value → Heap → Prop) (h : Heap) : Prop :=
  newK h (zerosOf Tryz.prog T.api_Tag) T.api_Tag (fun (v1 : Option Addr) h =>
  callK Tryz.prog .slice F.ref02_filled #[.slice b0.a b0.n b0.c] (fun (v2 : Sl) h =>
  callK Tryz.prog .slice F.ref02_constants #[] (fun (v3 : Sl) h =>
  callK Tryz.prog .slice F.ref02_begin #[] (fun (v4 : Sl) h =>
  loopW (fun X_6 (s_5 : Int) (h : Heap) =>
  if (decide (s_5 < ((v2.n : Int)))) = true then
  sliceK v2 (some s_5) (some (IntKind.i64.wrap (s_5 + 64))) none (sizeOfT Tryz.prog T.uint8) (fun (v7 : Sl) =>
  callK Tryz.prog .slice F.ref02_schedule #[.slice v7.a v7.n v7.c] (fun (v8 : Sl) h =>
  newSlK h 0 #[] T.uint32 (fun v9 h =>
  opK Tryz.prog .slice (Builtin.append_ #[T.sl_uint32, T.sl_uint32] T.sl_uint32 #[.slice v9.a v9.n v9.c, .slice v4.a v4.n v4.c]) (fun (v10 : Sl) h =>
  loopW (fun X_12 (s_11 : Sl × Int) (h : Heap) =>
  if (decide (s_11.2 < 64)) = true then
  idxK s_11.1 7 (sizeOfT Tryz.prog T.uint32) (fun (a_13 : Addr) =>
  idxK s_11.1 4 (sizeOfT Tryz.prog T.uint32) (fun (a_14 : Addr) =>
  idxK s_11.1 4 (sizeOfT Tryz.prog T.uint32) (fun (a_15 : Addr) =>
  idxK s_11.1 5 (sizeOfT Tryz.prog T.uint32) (fun (a_16 : Addr) =>
  idxK s_11.1 6 (sizeOfT Tryz.prog T.uint32) (fun (a_17 : Addr) =>
  idxK v3 s_11.2 (sizeOfT Tryz.prog T.uint32) (fun (a_18 : Addr) =>
  idxK v8 s_11.2 (sizeOfT Tryz.prog T.uint32) (fun (a_19 : Addr) =>
  loadK (.int .u32) h ((some a_13)) (fun (v20 : Int) =>
  loadK (.int .u32) h ((some a_14)) (fun (v21 : Int) =>
  loadK (.int .u32) h ((some a_15)) (fun (v22 : Int) =>
  loadK (.int .u32) h ((some a_16)) (fun (v23 : Int) =>
  loadK (.int .u32) h ((some a_17)) (fun (v24 : Int) =>
  loadK (.int .u32) h ((some a_18)) (fun (v25 : Int) =>
  loadK (.int .u32) h ((some a_19)) (fun (v26 : Int) =>
  newSlK h 3 #[.int .i64 6, .int .i64 11, .int .i64 25] T.int (fun v27 h =>
  callK Tryz.prog (.int .u32) F.ref01_Mix #[.int .u32 v21, .slice v27.a v27.n v27.c] (fun (v28 : Int) h =>
  stillK (.int .u32) h ((some a_19)) v26 ∧
  stillK (.int .u32) h ((some a_18)) v25 ∧
  stillK (.int .u32) h ((some a_17)) v24 ∧
  stillK (.int .u32) h ((some a_16)) v23 ∧
  stillK (.int .u32) h ((some a_15)) v22 ∧
  stillK (.int .u32) h ((some a_13)) v20 ∧
  callK Tryz.prog (.int .u32) F.ref01_Choose #[.int .u32 v22, .int .u32 v23, .int .u32 v24] (fun (v29 : Int) h =>
  stillK (.int .u32) h ((some a_19)) v26 ∧
  stillK (.int .u32) h ((some a_18)) v25 ∧
  stillK (.int .u32) h ((some a_13)) v20 ∧
  newSlK h 5 #[.int .u32 v20, .int .u32 v28, .int .u32 v29, .int .u32 v25, .int .u32 v26] T.uint32 (fun v30 h =>
  callK Tryz.prog (.int .u32) F.ref01_Sum #[.slice v30.a v30.n v30.c] (fun (v31 : Int) h =>
  idxK s_11.1 0 (sizeOfT Tryz.prog T.uint32) (fun (a_32 : Addr) =>
  sliceK s_11.1 none (some 3) none (sizeOfT Tryz.prog T.uint32) (fun (v33 : Sl) =>
  loadK (.int .u32) h ((some a_32)) (fun (v34 : Int) =>
  newSlK h 3 #[.int .i64 2, .int .i64 13, .int .i64 22] T.int (fun v35 h =>
  callK Tryz.prog (.int .u32) F.ref01_Mix #[.int .u32 v34, .slice v35.a v35.n v35.c] (fun (v36 : Int) h =>
  callK Tryz.prog (.int .u32) F.ref01_Most #[.slice v33.a v33.n v33.c] (fun (v37 : Int) h =>
  newSlK h 2 #[.int .u32 v36, .int .u32 v37] T.uint32 (fun v38 h =>
  callK Tryz.prog (.int .u32) F.ref01_Sum #[.slice v38.a v38.n v38.c] (fun (v39 : Int) h =>
  idxK s_11.1 0 (sizeOfT Tryz.prog T.uint32) (fun (a_40 : Addr) =>
  idxK s_11.1 1 (sizeOfT Tryz.prog T.uint32) (fun (a_41 : Addr) =>
  idxK s_11.1 2 (sizeOfT Tryz.prog T.uint32) (fun (a_42 : Addr) =>
  idxK s_11.1 3 (sizeOfT Tryz.prog T.uint32) (fun (a_43 : Addr) =>
  idxK s_11.1 4 (sizeOfT Tryz.prog T.uint32) (fun (a_44 : Addr) =>
  idxK s_11.1 5 (sizeOfT Tryz.prog T.uint32) (fun (a_45 : Addr) =>
  idxK s_11.1 6 (sizeOfT Tryz.prog T.uint32) (fun (a_46 : Addr) =>
  loadK (.int .u32) h ((some a_40)) (fun (v47 : Int) =>
  loadK (.int .u32) h ((some a_41)) (fun (v48 : Int) =>
  loadK (.int .u32) h ((some a_42)) (fun (v49 : Int) =>
  loadK (.int .u32) h ((some a_43)) (fun (v50 : Int) =>
  loadK (.int .u32) h ((some a_44)) (fun (v51 : Int) =>
  loadK (.int .u32) h ((some a_45)) (fun (v52 : Int) =>
  loadK (.int .u32) h ((some a_46)) (fun (v53 : Int) =>
  newSlK h 8 #[(.int .u32 (IntKind.u32.wrap (v31 + v39))), .int .u32 v47, .int .u32 v48, .int .u32 v49, (.int .u32 (IntKind.u32.wrap (v50 + v31))), .int .u32 v51, .int .u32 v52, .int .u32 v53] T.uint32 (fun v54 h =>
  X_12 (v54, IntKind.i64.wrap (s_11.2 + 1)) h)))))))))))))))) h)) h) h))))) h)) h) h)))))))))))))))
  else
  loopW (fun X_56 (s_55 : Int) (h : Heap) =>
  if (decide (s_55 < 8)) = true then
  idxK v4 s_55 (sizeOfT Tryz.prog T.uint32) (fun (a_57 : Addr) =>
  idxK s_11.1 s_55 (sizeOfT Tryz.prog T.uint32) (fun (a_58 : Addr) =>
  loadK (.int .u32) h ((some a_57)) (fun (v59 : Int) =>
  loadK (.int .u32) h ((some a_58)) (fun (v60 : Int) =>
  idxK v4 s_55 (sizeOfT Tryz.prog T.uint32) (fun (a_61 : Addr) =>
  storeK h ((some a_61)) (.int .u32 (IntKind.u32.wrap (v59 + v60))) (fun h =>
  X_56 (IntKind.i64.wrap (s_55 + 1)) h))))))
  else
  X_6 (IntKind.i64.wrap (s_5 + 64)) h) 0 h) (v10, 0) h) h)) h)
  else
  newK h (zerosOf Tryz.prog T.api_Tag) T.api_Tag (fun (out_62 : Option Addr) h =>
  callK Tryz.prog .slice F.ref01_Bytes #[.slice v4.a v4.n v4.c] (fun (v63 : Sl) h =>
  loopW (fun X_65 (s_64 : Int) (h : Heap) =>
  if (decide (s_64 < 32)) = true then
  idxK v63 s_64 (sizeOfT Tryz.prog T.uint8) (fun (a_66 : Addr) =>
  loadK (.int .u8) h ((some a_66)) (fun (v67 : Int) =>
  idxArrK out_62 32 s_64 (sizeOfT Tryz.prog T.uint8) (fun (a_68 : Addr) =>
  storeK h ((some a_68)) (.int .u8 v67) (fun h =>
  X_65 (IntKind.i64.wrap (s_64 + 1)) h))))
  else
  loadAggK (sizeOfT Tryz.prog T.api_Tag) h out_62 (fun (v69 : Array Value) =>
  storeAggK (sizeOfT Tryz.prog T.api_Tag) h v1 v69 (fun h =>
  quietK Tryz.prog .agg (Instr.loadAt T.api_Tag (.pointer v1)) (fun r70 =>
  R (.agg r70) h) h))) 0 h) h)) 0 h) h) h) h)
def ref02_Of.ann : Ann := (.seq .leaf (.seq .leaf (.seq .leaf (.seq .leaf (.seq (.seq .leaf (.block (.loop [(6, (.int .i64))] (.seq (.seq .leaf (.cond .leaf .leaf)) (.seq (.block (.seq .leaf (.seq .leaf (.seq (.seq .leaf (.block (.loop [(8, .slice), (9, (.int .i64))] (.seq (.seq .leaf (.cond .leaf .leaf)) (.seq (.block (.seq (.any (.loc 0 (.loc 1 (.loc 3 (.loc 4 (.loc 8 (.loc 9 (.loc 11 (.loc 12 (.loc 14 (.loc 15 (.loc 18 (.loc 19 (.loc 20 (.loc 22 (.loc 23 (.loc 24 (.st 2 469762048 (.st 5 469893248 (.st 10 469893120 (.st 13 469893120 (.st 16 469893120 (.st 21 469762048 (.st 25 469762048 (.last 6 (.last 7 (.last 17 (.last 26 (.last 27 (.loc 28 .done)))))))))))))))))))))))))))))) (.seq (.any (.loc 0 (.loc 1 (.loc 5 (.loc 6 (.st 2 1936 (.last 3 (.last 4 (.last 7 (.last 8 (.last 9 (.loc 10 .done)))))))))))) (.any (.loc 0 (.loc 1 (.loc 2 (.loc 3 (.loc 4 (.loc 6 (.loc 7 (.loc 9 (.loc 10 (.loc 12 (.loc 13 (.loc 15 (.loc 17 (.loc 18 (.loc 20 (.loc 21 (.loc 23 (.loc 24 (.st 5 201326592 (.st 8 201326592 (.st 11 201326592 (.st 14 201392128 (.loc 16 (.st 19 201326592 (.st 22 201326592 (.st 25 201326592 (.last 26 (.loc 27 .done)))))))))))))))))))))))))))))))) .leaf))))) (.seq .leaf (.block (.loop [(12, (.int .i64))] (.seq (.seq .leaf (.cond .leaf .leaf)) (.seq (.block (.any (.loc 0 (.loc 1 (.loc 2 (.loc 3 (.loc 4 (.loc 6 (.loc 7 (.loc 8 (.st 5 7168 (.st 9 7168 (.loc 10 (.loc 11 (.last 12 .done))))))))))))))) .leaf))))))))) .leaf))))) (.seq .leaf (.seq .leaf (.seq (.seq .leaf (.block (.loop [(14, (.int .i64))] (.seq (.seq .leaf (.cond .leaf .leaf)) (.seq (.block .leaf) .leaf))))) (.seq .leaf .leaf)))))))))
theorem ref02_Of.eq (b0 : Sl) (R : Value → Heap → Prop) (h : Heap) : ref02_Of.body b0 R h = evFn Tryz.prog Tryz.f68 ref02_Of.ann [.slice b0.a b0.n b0.c] R h := by kernel_rfl
theorem ref02_Of.calls {b0 : Sl} {R : Value → Heap → Prop} {h : Heap} (H : ref02_Of.body b0 R h) : HC Tryz.prog F.ref02_Of #[.slice b0.a b0.n b0.c] R h :=
  evFn_sound mixed Tryz.func68 (by kernel_rfl) (ref02_Of.eq b0 R h ▸ H)

/-! zugzwang/zugzwangref04.eight -/
def ref04_eight.body (n0 : Int) (R : Value → Heap → Prop) (h : Heap) : Prop :=
  loopW (fun X_2 (s_1 : Sl × Int) (h : Heap) =>
  if (decide (s_1.2 ≥ 0)) = true then
  shiftK (IntKind.i64.wrap (8 * s_1.2))
  (newSlK h 1 #[(.int .u8 (IntKind.u8.wrap (Int.fdiv (IntKind.u64.wrap n0) (2 ^ min (Int.toNat (IntKind.i64.wrap (8 * s_1.2))) (IntKind.bits .u64)))))] T.uint8 (fun (v_3 : Sl) (h : Heap) =>
  opK Tryz.prog .slice (Builtin.append_ #[T.sl_uint8, T.sl_uint8] T.sl_uint8 #[(.slice s_1.1.a s_1.1.n s_1.1.c), (.slice v_3.a v_3.n v_3.c)]) (fun (v_4 : Sl) (h : Heap) =>
  X_2 (v_4, IntKind.i64.wrap (s_1.2 - 1)) h) h))
  else
  R (.slice s_1.1.a s_1.1.n s_1.1.c) h) (⟨none, 0, 0⟩, 7) h
def ref04_eight.ann : Ann := (.seq .leaf (.seq .leaf (.seq (.seq .leaf (.block (.loop [(3, .slice), (4, (.int .i64))] (.seq (.seq .leaf (.cond .leaf .leaf)) (.seq (.block .leaf) .leaf))))) (.seq .leaf .leaf))))
theorem ref04_eight.eq (n0 : Int) (R : Value → Heap → Prop) (h : Heap) : ref04_eight.body n0 R h = evFn Tryz.prog Tryz.f108 ref04_eight.ann [(.int .i64 n0)] R h := by kernel_rfl
theorem ref04_eight.calls {n0 : Int} {R : Value → Heap → Prop} {h : Heap} (H : ref04_eight.body n0 R h) : HC Tryz.prog F.ref04_eight #[(.int .i64 n0)] R h :=
  evFn_sound mixed Tryz.func108 (by kernel_rfl) (ref04_eight.eq n0 R h ▸ H)

/-! zugzwang/zugzwangref04.Number -/
def ref04_Number.body (n0 : Int) (R : Value → Heap → Prop) (h : Heap) : Prop :=
  newK h (zerosOf Tryz.prog T.api_Tag) T.api_Tag (fun (v1 : Option Addr) h =>
  newK h (zerosOf Tryz.prog T.api_Tag) T.api_Tag (fun (t_2 : Option Addr) h =>
  newSlK h 8 #[.int .u8 122, .int .u8 117, .int .u8 103, .int .u8 122, .int .u8 119, .int .u8 97, .int .u8 110, .int .u8 103] T.uint8 (fun v3 h =>
  opK Tryz.prog .slice (convert T.sl_uint8 T.sl_uint8 (.slice v3.a v3.n v3.c)) (fun (v4 : Sl) h =>
  callK Tryz.prog .slice F.ref04_eight #[.int .i64 n0] (fun (v5 : Sl) h =>
  opK Tryz.prog .slice (Builtin.append_ #[T.sl_uint8, T.sl_uint8] T.sl_uint8 #[.slice v4.a v4.n v4.c, .slice v5.a v5.n v5.c]) (fun (v6 : Sl) h =>
  loopW (fun X_8 (s_7 : Int) (h : Heap) =>
  if (decide (s_7 < ((v6.n : Int)))) = true then
  idxK v6 s_7 (sizeOfT Tryz.prog T.uint8) (fun (a_9 : Addr) =>
  loadK (.int .u8) h ((some a_9)) (fun (v10 : Int) =>
  idxArrK t_2 32 s_7 (sizeOfT Tryz.prog T.uint8) (fun (a_11 : Addr) =>
  storeK h ((some a_11)) (.int .u8 v10) (fun h =>
  X_8 (IntKind.i64.wrap (s_7 + 1)) h))))
  else
  loadAggK (sizeOfT Tryz.prog T.api_Tag) h t_2 (fun (v12 : Array Value) =>
  storeAggK (sizeOfT Tryz.prog T.api_Tag) h v1 v12 (fun h =>
  quietK Tryz.prog .agg (Instr.loadAt T.api_Tag (.pointer v1)) (fun r13 =>
  R (.agg r13) h) h))) 0 h) h) h) h)))
def ref04_Number.ann : Ann := (.seq .leaf (.seq .leaf (.seq .leaf (.seq (.seq .leaf (.block (.loop [(5, (.int .i64))] (.seq (.seq .leaf (.cond .leaf .leaf)) (.seq (.block .leaf) .leaf))))) (.seq .leaf .leaf)))))
theorem ref04_Number.eq (n0 : Int) (R : Value → Heap → Prop) (h : Heap) : ref04_Number.body n0 R h = evFn Tryz.prog Tryz.f88 ref04_Number.ann [.int .i64 n0] R h := by kernel_rfl
theorem ref04_Number.calls {n0 : Int} {R : Value → Heap → Prop} {h : Heap} (H : ref04_Number.body n0 R h) : HC Tryz.prog F.ref04_Number #[.int .i64 n0] R h :=
  evFn_sound mixed Tryz.func88 (by kernel_rfl) (ref04_Number.eq n0 R h ▸ H)

/-! (*zugzwang/zugzwangref04.Maker).ask -/
def ref04_Maker_ask.body (m0 : Option Addr) (x1 : Array Value) (R : Value → Heap → Prop) (h : Heap) : Prop :=
  newK h x1 T.zugzwangref04_Thing (fun (x_1 : Option Addr) h =>
  newK h (zerosOf Tryz.prog T.api_Tag) T.api_Tag (fun (v2 : Option Addr) h =>
  loopW (fun X_4 (s_3 : Int) (h : Heap) =>
  derefK m0 (fun (a_5 : Addr) =>
  fldK ((some a_5)) 2 (fun (a_6 : Addr) =>
  loadK .slice h ((some a_6)) (fun (v7 : Sl) =>
  if (decide (s_3 < ((v7.n : Int)))) = true then
  derefK m0 (fun (a_8 : Addr) =>
  fldK ((some a_8)) 2 (fun (a_9 : Addr) =>
  loadK .slice h ((some a_9)) (fun (v10 : Sl) =>
  idxK v10 s_3 (sizeOfT Tryz.prog T.zugzwangref04_Thing) (fun (a_11 : Addr) =>
  loadAggK (sizeOfT Tryz.prog T.zugzwangref04_Thing) h ((some a_11)) (fun (v12 : Array Value) =>
  loadAggK (sizeOfT Tryz.prog T.zugzwangref04_Thing) h x_1 (fun (v13 : Array Value) =>
  eqK Tryz.prog (binSem .eql T.zugzwangref04_Thing (.tmp 21) (.tmp 22) (.agg v12) (.agg v13)) (fun (v14 : Bool) =>
  if v14 = true then
  callK Tryz.prog .agg F.ref04_Number #[.int .i64 s_3] (fun (v15 : Array Value) h =>
  storeAggK (sizeOfT Tryz.prog T.api_Tag) h v2 v15 (fun h =>
  quietK Tryz.prog .agg (Instr.loadAt T.api_Tag (.pointer v2)) (fun r16 =>
  R (.agg r16) h) h)) h
  else
  X_4 (IntKind.i64.wrap (s_3 + 1)) h)))))))
  else
  derefK m0 (fun (a_17 : Addr) =>
  fldK ((some a_17)) 2 (fun (a_18 : Addr) =>
  loadK .slice h ((some a_18)) (fun (v19 : Sl) =>
  loadAggK (sizeOfT Tryz.prog T.zugzwangref04_Thing) h x_1 (fun (v20 : Array Value) =>
  opK Tryz.prog .slice (Instr.buildSlice T.sl_zugzwangref04_Thing 1 #[(0, (.agg v20))]) (fun (v21 : Sl) h =>
  opK Tryz.prog .slice (Builtin.append_ #[T.sl_zugzwangref04_Thing, T.sl_zugzwangref04_Thing] T.sl_zugzwangref04_Thing #[.slice v19.a v19.n v19.c, .slice v21.a v21.n v21.c]) (fun (v22 : Sl) h =>
  derefK m0 (fun (a_23 : Addr) =>
  fldK ((some a_23)) 2 (fun (a_24 : Addr) =>
  storeK h ((some a_24)) (.slice v22.a v22.n v22.c) (fun h =>
  derefK m0 (fun (a_25 : Addr) =>
  fldK ((some a_25)) 2 (fun (a_26 : Addr) =>
  loadK .slice h ((some a_26)) (fun (v27 : Sl) =>
  callK Tryz.prog .agg F.ref04_Number #[(.int .i64 (IntKind.i64.wrap (((v27.n : Int)) - 1)))] (fun (v28 : Array Value) h =>
  storeAggK (sizeOfT Tryz.prog T.api_Tag) h v2 v28 (fun h =>
  quietK Tryz.prog .agg (Instr.loadAt T.api_Tag (.pointer v2)) (fun r29 =>
  R (.agg r29) h) h)) h))))))) h) h)))))))) 0 h))
def ref04_Maker_ask.ann : Ann := (.seq .leaf (.seq (.seq .leaf (.block (.loop [(5, (.int .i64))] (.seq (.seq .leaf (.cond .leaf .leaf)) (.seq (.block (.seq .leaf (.cond (.seq .leaf .leaf) .leaf))) .leaf))))) (.seq (.any (.loc 0 (.loc 1 (.loc 2 (.loc 3 (.st 4 1920 (.st 5 1984 (.last 6 (.last 7 (.loc 8 (.loc 9 (.last 10 .done)))))))))))) (.seq .leaf .leaf))))
theorem ref04_Maker_ask.eq (m0 : Option Addr) (x1 : Array Value) (R : Value → Heap → Prop) (h : Heap) : ref04_Maker_ask.body m0 x1 R h = evFn Tryz.prog Tryz.f69 ref04_Maker_ask.ann [.pointer m0, .agg x1] R h := by kernel_rfl
theorem ref04_Maker_ask.calls {m0 : Option Addr} {x1 : Array Value} {R : Value → Heap → Prop} {h : Heap} (H : ref04_Maker_ask.body m0 x1 R h) : HC Tryz.prog F.ref04_Maker_ask #[.pointer m0, .agg x1] R h :=
  evFn_sound mixed Tryz.func69 (by kernel_rfl) (ref04_Maker_ask.eq m0 x1 R h ▸ H)

/-! (*zugzwang/zugzwangref04.Maker).Sum -/
def ref04_Maker_Sum.body (m0 : Option Addr) (b1 : Sl) (R : Value → Heap → Prop) (h : Heap) : Prop :=
  newK h (zerosOf Tryz.prog T.api_Tag) T.api_Tag (fun (v_1 : Option Addr) (h : Heap) =>
  derefK m0 (fun (a_2 : Addr) =>
  fldK ((some a_2)) 0 (fun (a_3 : Addr) =>
  loadK .bool h ((some a_3)) (fun (v_4 : Bool) =>
  if v_4 = true then
  callK Tryz.prog .agg F.ref02_Of #[(.slice b1.a b1.n b1.c)] (fun (v_5 : Array Value) (h : Heap) =>
  storeAggK (sizeOfT Tryz.prog T.api_Tag) h v_1 v_5 (fun (h : Heap) =>
  quietK Tryz.prog .agg (Instr.loadAt T.api_Tag (.pointer v_1)) (fun (r_6 : Array Value) =>
  R (.agg r_6) h) h)) h
  else
  opK Tryz.prog .str (convert T.sl_uint8 T.string (.slice b1.a b1.n b1.c)) (fun (v_7 : ByteArray) (h : Heap) =>
  buildK Tryz.prog (Instr.build T.zugzwangref04_Thing #[(0, (.int .i64 0)), (2, (.string v_7))]) (fun (v_8 : Array Value) =>
  callK Tryz.prog .agg F.ref04_Maker_ask #[(.pointer m0), (.agg v_8)] (fun (v_9 : Array Value) (h : Heap) =>
  storeAggK (sizeOfT Tryz.prog T.api_Tag) h v_1 v_9 (fun (h : Heap) =>
  quietK Tryz.prog .agg (Instr.loadAt T.api_Tag (.pointer v_1)) (fun (r_10 : Array Value) =>
  R (.agg r_10) h) h)) h)) h))))
def ref04_Maker_Sum.ann : Ann := (.seq .leaf (.seq (.seq .leaf (.cond (.seq .leaf .leaf) .leaf)) (.seq .leaf .leaf)))
theorem ref04_Maker_Sum.eq (m0 : Option Addr) (b1 : Sl) (R : Value → Heap → Prop) (h : Heap) : ref04_Maker_Sum.body m0 b1 R h = evFn Tryz.prog Tryz.f55 ref04_Maker_Sum.ann [(.pointer m0), (.slice b1.a b1.n b1.c)] R h := by kernel_rfl
theorem ref04_Maker_Sum.calls {m0 : Option Addr} {b1 : Sl} {R : Value → Heap → Prop} {h : Heap} (H : ref04_Maker_Sum.body m0 b1 R h) : HC Tryz.prog F.ref04_Maker_Sum #[(.pointer m0), (.slice b1.a b1.n b1.c)] R h :=
  evFn_sound mixed Tryz.func55 (by kernel_rfl) (ref04_Maker_Sum.eq m0 b1 R h ▸ H)

/-! zugzwang/zugzwangref22.Cover -/
def ref22_Cover.body (m0 : Option Addr) (nonce1 : Array Value) (rows2 : Sl) (R : Value → Heap → Prop) (h : Heap) : Prop :=
  newK h nonce1 T.api_Tag (fun (nonce_1 : Option Addr) h =>
  newK h (zerosOf Tryz.prog T.api_Tag) T.api_Tag (fun (v2 : Option Addr) h =>
  loopW (fun X_4 (s_3 : Sl × Int) (h : Heap) =>
  if (decide (s_3.2 < ((rows2.n : Int)))) = true then
  idxK rows2 s_3.2 (sizeOfT Tryz.prog T.sl_uint8) (fun (a_5 : Addr) =>
  idxK rows2 s_3.2 (sizeOfT Tryz.prog T.sl_uint8) (fun (a_6 : Addr) =>
  loadK .slice h ((some a_5)) (fun (v7 : Sl) =>
  loadK .slice h ((some a_6)) (fun (v8 : Sl) =>
  callK Tryz.prog .slice F.ref17_Four #[(.int .i64 ((v7.n : Int)))] (fun (v9 : Sl) h =>
  stillK .slice h ((some a_6)) v8 ∧
  opK Tryz.prog .slice (Builtin.append_ #[T.sl_uint8, T.sl_uint8] T.sl_uint8 #[.slice s_3.1.a s_3.1.n s_3.1.c, .slice v9.a v9.n v9.c]) (fun (v10 : Sl) h =>
  stillK .slice h ((some a_6)) v8 ∧
  opK Tryz.prog .slice (Builtin.append_ #[T.sl_uint8, T.sl_uint8] T.sl_uint8 #[.slice v10.a v10.n v10.c, .slice v8.a v8.n v8.c]) (fun (v11 : Sl) h =>
  X_4 (v11, IntKind.i64.wrap (s_3.2 + 1)) h) h) h) h))))
  else
  loadAggK (sizeOfT Tryz.prog T.api_Tag) h nonce_1 (fun (v12 : Array Value) =>
  callK Tryz.prog .slice F.ref22_raw #[.agg v12] (fun (v13 : Sl) h =>
  opK Tryz.prog .slice (Builtin.append_ #[T.sl_uint8, T.sl_uint8] T.sl_uint8 #[.slice s_3.1.a s_3.1.n s_3.1.c, .slice v13.a v13.n v13.c]) (fun (v14 : Sl) h =>
  if (decide (((v14.n : Int)) > 65536)) = true then
  buildK Tryz.prog (Instr.build T.api_Tag #[]) (fun (v15 : Array Value) =>
  storeAggK (sizeOfT Tryz.prog T.api_Tag) h v2 v15 (fun h =>
  quietK Tryz.prog .agg (Instr.loadAt T.api_Tag (.pointer v2)) (fun r16 =>
  R (.tuple #[.agg r16, .int .i64 3]) h) h))
  else
  newSlK h 4 #[.int .u8 104, .int .u8 105, .int .u8 100, .int .u8 101] T.uint8 (fun v17 h =>
  opK Tryz.prog .slice (convert T.sl_uint8 T.sl_uint8 (.slice v17.a v17.n v17.c)) (fun (v18 : Sl) h =>
  opK Tryz.prog .slice (Builtin.append_ #[T.sl_uint8, T.sl_uint8] T.sl_uint8 #[.slice v18.a v18.n v18.c, .slice v14.a v14.n v14.c]) (fun (v19 : Sl) h =>
  callK Tryz.prog .agg F.ref04_Maker_Sum #[.pointer m0, .slice v19.a v19.n v19.c] (fun (v20 : Array Value) h =>
  storeAggK (sizeOfT Tryz.prog T.api_Tag) h v2 v20 (fun h =>
  quietK Tryz.prog .agg (Instr.loadAt T.api_Tag (.pointer v2)) (fun r21 =>
  R (.tuple #[.agg r21, .int .i64 0]) h) h)) h) h) h)) h) h)) (⟨none, 0, 0⟩, 0) h))
def ref22_Cover.ann : Ann := (.seq .leaf (.seq .leaf (.seq (.seq .leaf (.block (.loop [(8, .slice), (9, (.int .i64))] (.seq (.seq .leaf (.cond .leaf .leaf)) (.seq (.block (.any (.loc 0 (.loc 1 (.loc 2 (.loc 3 (.loc 8 (.loc 9 (.loc 10 (.st 4 12512 (.loc 5 (.st 11 12288 (.last 6 (.last 7 (.last 12 (.loc 13 .done)))))))))))))))) .leaf))))) (.seq .leaf (.seq (.seq .leaf (.cond (.seq .leaf .leaf) .leaf)) (.seq .leaf .leaf))))))
theorem ref22_Cover.eq (m0 : Option Addr) (nonce1 : Array Value) (rows2 : Sl) (R : Value → Heap → Prop) (h : Heap) : ref22_Cover.body m0 nonce1 rows2 R h = evFn Tryz.prog Tryz.f38 ref22_Cover.ann [.pointer m0, .agg nonce1, .slice rows2.a rows2.n rows2.c] R h := by kernel_rfl
theorem ref22_Cover.calls {m0 : Option Addr} {nonce1 : Array Value} {rows2 : Sl} {R : Value → Heap → Prop} {h : Heap} (H : ref22_Cover.body m0 nonce1 rows2 R h) : HC Tryz.prog F.ref22_Cover #[.pointer m0, .agg nonce1, .slice rows2.a rows2.n rows2.c] R h :=
  evFn_sound mixed Tryz.func38 (by kernel_rfl) (ref22_Cover.eq m0 nonce1 rows2 R h ▸ H)

/-! zugzwang/zugzwangref22.Move -/
abbrev ref22_Move.tail (m : Option Addr) (a : Array Value) (z : Option Addr) (R : Value → Heap → Prop) (s : Sl) (h : Heap) : Prop :=
  callK Tryz.prog (Kd.pair .agg (.int .i64)) F.ref22_Cover #[.pointer m, .agg a, .slice s.a s.n s.c] (fun (v : Array Value × Int) h =>
  storeAggK (sizeOfT Tryz.prog T.api_Tag) h z v.1 (fun h =>
  quietK Tryz.prog .agg (Instr.loadAt T.api_Tag (.pointer z)) (fun r =>
  R (.tuple #[.agg r, .int .i64 v.2]) h) h)) h
def ref22_Move.body (m0 : Option Addr) (game1 : Array Value) (number2 : Int) (x3 : Array Value) (nonce4 : Array Value) (R : Value → Heap → Prop) (h : Heap) : Prop :=
  newK h game1 T.api_Tag (fun (game_1 : Option Addr) h =>
  newK h x3 T.api_Move (fun (x_2 : Option Addr) h =>
  newK h nonce4 T.api_Tag (fun (nonce_3 : Option Addr) h =>
  newK h (zerosOf Tryz.prog T.api_Tag) T.api_Tag (fun (v4 : Option Addr) h =>
  if (decide (number2 < 0)) = true then
  buildK Tryz.prog (Instr.build T.api_Tag #[]) (fun (v5 : Array Value) =>
  storeAggK (sizeOfT Tryz.prog T.api_Tag) h v4 v5 (fun h =>
  quietK Tryz.prog .agg (Instr.loadAt T.api_Tag (.pointer v4)) (fun r6 =>
  R (.tuple #[.agg r6, .int .i64 2]) h) h))
  else
  if (decide (number2 > 4294967295)) = true then
  buildK Tryz.prog (Instr.build T.api_Tag #[]) (fun (v7 : Array Value) =>
  storeAggK (sizeOfT Tryz.prog T.api_Tag) h v4 v7 (fun h =>
  quietK Tryz.prog .agg (Instr.loadAt T.api_Tag (.pointer v4)) (fun r8 =>
  R (.tuple #[.agg r8, .int .i64 2]) h) h))
  else
  loadAggK (sizeOfT Tryz.prog T.api_Move) h x_2 (fun (v9 : Array Value) =>
  buildK Tryz.prog (Instr.build T.api_Body #[(0, (.int .i64 1)), (1, (.agg v9))]) (fun (v10 : Array Value) =>
  callK Tryz.prog .bool F.ref18_Body #[.agg v10] (fun (v11 : Bool) h =>
  if (!v11) = true then
  buildK Tryz.prog (Instr.build T.api_Tag #[]) (fun (v12 : Array Value) =>
  storeAggK (sizeOfT Tryz.prog T.api_Tag) h v4 v12 (fun h =>
  quietK Tryz.prog .agg (Instr.loadAt T.api_Tag (.pointer v4)) (fun r13 =>
  R (.tuple #[.agg r13, .int .i64 2]) h) h))
  else
  fldK x_2 0 (fun (a_14 : Addr) =>
  fldK x_2 1 (fun (a_15 : Addr) =>
  fldK x_2 2 (fun (a_16 : Addr) =>
  loadAggK (sizeOfT Tryz.prog T.api_Tag) h nonce_3 (fun (v17 : Array Value) =>
  loadAggK (sizeOfT Tryz.prog T.api_Tag) h game_1 (fun (v18 : Array Value) =>
  loadK (.int .i64) h ((some a_14)) (fun (v19 : Int) =>
  loadK (.int .i64) h ((some a_15)) (fun (v20 : Int) =>
  loadK (.int .i64) h ((some a_16)) (fun (v21 : Int) =>
  ((newSlK h 4 #[.int .u8 109, .int .u8 111, .int .u8 118, .int .u8 101] T.uint8 (fun v22 h =>
  ((opK Tryz.prog .slice (convert T.sl_uint8 T.sl_uint8 (.slice v22.a v22.n v22.c)) (fun (v23 : Sl) h =>
  ((callK Tryz.prog .slice F.ref22_raw #[.agg v18] (fun (v24 : Sl) h =>
  stillK (.int .i64) h ((some a_16)) v21 ∧
  stillK (.int .i64) h ((some a_15)) v20 ∧
  stillK (.int .i64) h ((some a_14)) v19 ∧
  stillAggK (sizeOfT Tryz.prog T.api_Tag) h nonce_3 v17 ∧
  ((callK Tryz.prog .slice F.ref17_Four #[.int .i64 number2] (fun (v25 : Sl) h =>
  stillK (.int .i64) h ((some a_16)) v21 ∧
  stillK (.int .i64) h ((some a_15)) v20 ∧
  stillK (.int .i64) h ((some a_14)) v19 ∧
  stillAggK (sizeOfT Tryz.prog T.api_Tag) h nonce_3 v17 ∧
  newSlK h 3 #[(.int .u8 (IntKind.u8.wrap v19)), (.int .u8 (IntKind.u8.wrap v20)), (.int .u8 (IntKind.u8.wrap v21))] T.uint8 (fun v26 h =>
  newSlK h 4 #[.slice v23.a v23.n v23.c, .slice v24.a v24.n v24.c, .slice v25.a v25.n v25.c, .slice v26.a v26.n v26.c] T.sl_uint8 (fun v27 h =>
  ref22_Move.tail m0 v17 v4 R v27 h))) h) ∧
  (newSlK h 3 #[(.int .u8 (IntKind.u8.wrap v19)), (.int .u8 (IntKind.u8.wrap v20)), (.int .u8 (IntKind.u8.wrap v21))] T.uint8 (fun v30 h =>
  callK Tryz.prog .slice F.ref17_Four #[.int .i64 number2] (fun (v31 : Sl) h =>
  stillAggK (sizeOfT Tryz.prog T.api_Tag) h nonce_3 v17 ∧
  newSlK h 4 #[.slice v23.a v23.n v23.c, .slice v24.a v24.n v24.c, .slice v31.a v31.n v31.c, .slice v30.a v30.n v30.c] T.sl_uint8 (fun v32 h =>
  ref22_Move.tail m0 v17 v4 R v32 h)) h)))) h) ∧
  (newSlK h 3 #[(.int .u8 (IntKind.u8.wrap v19)), (.int .u8 (IntKind.u8.wrap v20)), (.int .u8 (IntKind.u8.wrap v21))] T.uint8 (fun v35 h =>
  callK Tryz.prog .slice F.ref22_raw #[.agg v18] (fun (v36 : Sl) h =>
  stillAggK (sizeOfT Tryz.prog T.api_Tag) h nonce_3 v17 ∧
  callK Tryz.prog .slice F.ref17_Four #[.int .i64 number2] (fun (v37 : Sl) h =>
  stillAggK (sizeOfT Tryz.prog T.api_Tag) h nonce_3 v17 ∧
  newSlK h 4 #[.slice v23.a v23.n v23.c, .slice v36.a v36.n v36.c, .slice v37.a v37.n v37.c, .slice v35.a v35.n v35.c] T.sl_uint8 (fun v38 h =>
  ref22_Move.tail m0 v17 v4 R v38 h)) h) h)))) h) ∧
  (((callK Tryz.prog .slice F.ref22_raw #[.agg v18] (fun (v41 : Sl) h =>
  stillK (.int .i64) h ((some a_16)) v21 ∧
  stillK (.int .i64) h ((some a_15)) v20 ∧
  stillK (.int .i64) h ((some a_14)) v19 ∧
  stillAggK (sizeOfT Tryz.prog T.api_Tag) h nonce_3 v17 ∧
  ((opK Tryz.prog .slice (convert T.sl_uint8 T.sl_uint8 (.slice v22.a v22.n v22.c)) (fun (v42 : Sl) h =>
  ((callK Tryz.prog .slice F.ref17_Four #[.int .i64 number2] (fun (v43 : Sl) h =>
  stillK (.int .i64) h ((some a_16)) v21 ∧
  stillK (.int .i64) h ((some a_15)) v20 ∧
  stillK (.int .i64) h ((some a_14)) v19 ∧
  stillAggK (sizeOfT Tryz.prog T.api_Tag) h nonce_3 v17 ∧
  newSlK h 3 #[(.int .u8 (IntKind.u8.wrap v19)), (.int .u8 (IntKind.u8.wrap v20)), (.int .u8 (IntKind.u8.wrap v21))] T.uint8 (fun v44 h =>
  newSlK h 4 #[.slice v42.a v42.n v42.c, .slice v41.a v41.n v41.c, .slice v43.a v43.n v43.c, .slice v44.a v44.n v44.c] T.sl_uint8 (fun v45 h =>
  ref22_Move.tail m0 v17 v4 R v45 h))) h) ∧
  (newSlK h 3 #[(.int .u8 (IntKind.u8.wrap v19)), (.int .u8 (IntKind.u8.wrap v20)), (.int .u8 (IntKind.u8.wrap v21))] T.uint8 (fun v48 h =>
  callK Tryz.prog .slice F.ref17_Four #[.int .i64 number2] (fun (v49 : Sl) h =>
  stillAggK (sizeOfT Tryz.prog T.api_Tag) h nonce_3 v17 ∧
  newSlK h 4 #[.slice v42.a v42.n v42.c, .slice v41.a v41.n v41.c, .slice v49.a v49.n v49.c, .slice v48.a v48.n v48.c] T.sl_uint8 (fun v50 h =>
  ref22_Move.tail m0 v17 v4 R v50 h)) h)))) h) ∧
  (((callK Tryz.prog .slice F.ref17_Four #[.int .i64 number2] (fun (v53 : Sl) h =>
  stillK (.int .i64) h ((some a_16)) v21 ∧
  stillK (.int .i64) h ((some a_15)) v20 ∧
  stillK (.int .i64) h ((some a_14)) v19 ∧
  stillAggK (sizeOfT Tryz.prog T.api_Tag) h nonce_3 v17 ∧
  ((opK Tryz.prog .slice (convert T.sl_uint8 T.sl_uint8 (.slice v22.a v22.n v22.c)) (fun (v54 : Sl) h =>
  newSlK h 3 #[(.int .u8 (IntKind.u8.wrap v19)), (.int .u8 (IntKind.u8.wrap v20)), (.int .u8 (IntKind.u8.wrap v21))] T.uint8 (fun v55 h =>
  newSlK h 4 #[.slice v54.a v54.n v54.c, .slice v41.a v41.n v41.c, .slice v53.a v53.n v53.c, .slice v55.a v55.n v55.c] T.sl_uint8 (fun v56 h =>
  ref22_Move.tail m0 v17 v4 R v56 h))) h) ∧
  (newSlK h 3 #[(.int .u8 (IntKind.u8.wrap v19)), (.int .u8 (IntKind.u8.wrap v20)), (.int .u8 (IntKind.u8.wrap v21))] T.uint8 (fun v59 h =>
  opK Tryz.prog .slice (convert T.sl_uint8 T.sl_uint8 (.slice v22.a v22.n v22.c)) (fun (v60 : Sl) h =>
  newSlK h 4 #[.slice v60.a v60.n v60.c, .slice v41.a v41.n v41.c, .slice v53.a v53.n v53.c, .slice v59.a v59.n v59.c] T.sl_uint8 (fun v61 h =>
  ref22_Move.tail m0 v17 v4 R v61 h)) h)))) h) ∧
  (newSlK h 3 #[(.int .u8 (IntKind.u8.wrap v19)), (.int .u8 (IntKind.u8.wrap v20)), (.int .u8 (IntKind.u8.wrap v21))] T.uint8 (fun v64 h =>
  ((opK Tryz.prog .slice (convert T.sl_uint8 T.sl_uint8 (.slice v22.a v22.n v22.c)) (fun (v65 : Sl) h =>
  callK Tryz.prog .slice F.ref17_Four #[.int .i64 number2] (fun (v66 : Sl) h =>
  stillAggK (sizeOfT Tryz.prog T.api_Tag) h nonce_3 v17 ∧
  newSlK h 4 #[.slice v65.a v65.n v65.c, .slice v41.a v41.n v41.c, .slice v66.a v66.n v66.c, .slice v64.a v64.n v64.c] T.sl_uint8 (fun v67 h =>
  ref22_Move.tail m0 v17 v4 R v67 h)) h) h) ∧
  (callK Tryz.prog .slice F.ref17_Four #[.int .i64 number2] (fun (v70 : Sl) h =>
  stillAggK (sizeOfT Tryz.prog T.api_Tag) h nonce_3 v17 ∧
  opK Tryz.prog .slice (convert T.sl_uint8 T.sl_uint8 (.slice v22.a v22.n v22.c)) (fun (v71 : Sl) h =>
  newSlK h 4 #[.slice v71.a v71.n v71.c, .slice v41.a v41.n v41.c, .slice v70.a v70.n v70.c, .slice v64.a v64.n v64.c] T.sl_uint8 (fun v72 h =>
  ref22_Move.tail m0 v17 v4 R v72 h)) h) h)))))))) h) ∧
  (newSlK h 3 #[(.int .u8 (IntKind.u8.wrap v19)), (.int .u8 (IntKind.u8.wrap v20)), (.int .u8 (IntKind.u8.wrap v21))] T.uint8 (fun v75 h =>
  ((opK Tryz.prog .slice (convert T.sl_uint8 T.sl_uint8 (.slice v22.a v22.n v22.c)) (fun (v76 : Sl) h =>
  callK Tryz.prog .slice F.ref22_raw #[.agg v18] (fun (v77 : Sl) h =>
  stillAggK (sizeOfT Tryz.prog T.api_Tag) h nonce_3 v17 ∧
  callK Tryz.prog .slice F.ref17_Four #[.int .i64 number2] (fun (v78 : Sl) h =>
  stillAggK (sizeOfT Tryz.prog T.api_Tag) h nonce_3 v17 ∧
  newSlK h 4 #[.slice v76.a v76.n v76.c, .slice v77.a v77.n v77.c, .slice v78.a v78.n v78.c, .slice v75.a v75.n v75.c] T.sl_uint8 (fun v79 h =>
  ref22_Move.tail m0 v17 v4 R v79 h)) h) h) h) ∧
  (callK Tryz.prog .slice F.ref22_raw #[.agg v18] (fun (v82 : Sl) h =>
  stillAggK (sizeOfT Tryz.prog T.api_Tag) h nonce_3 v17 ∧
  ((opK Tryz.prog .slice (convert T.sl_uint8 T.sl_uint8 (.slice v22.a v22.n v22.c)) (fun (v83 : Sl) h =>
  callK Tryz.prog .slice F.ref17_Four #[.int .i64 number2] (fun (v84 : Sl) h =>
  stillAggK (sizeOfT Tryz.prog T.api_Tag) h nonce_3 v17 ∧
  newSlK h 4 #[.slice v83.a v83.n v83.c, .slice v82.a v82.n v82.c, .slice v84.a v84.n v84.c, .slice v75.a v75.n v75.c] T.sl_uint8 (fun v85 h =>
  ref22_Move.tail m0 v17 v4 R v85 h)) h) h) ∧
  (callK Tryz.prog .slice F.ref17_Four #[.int .i64 number2] (fun (v88 : Sl) h =>
  stillAggK (sizeOfT Tryz.prog T.api_Tag) h nonce_3 v17 ∧
  opK Tryz.prog .slice (convert T.sl_uint8 T.sl_uint8 (.slice v22.a v22.n v22.c)) (fun (v89 : Sl) h =>
  newSlK h 4 #[.slice v89.a v89.n v89.c, .slice v82.a v82.n v82.c, .slice v88.a v88.n v88.c, .slice v75.a v75.n v75.c] T.sl_uint8 (fun v90 h =>
  ref22_Move.tail m0 v17 v4 R v90 h)) h) h))) h))))))))) ∧
  (((callK Tryz.prog .slice F.ref22_raw #[.agg v18] (fun (v93 : Sl) h =>
  stillK (.int .i64) h ((some a_16)) v21 ∧
  stillK (.int .i64) h ((some a_15)) v20 ∧
  stillK (.int .i64) h ((some a_14)) v19 ∧
  stillAggK (sizeOfT Tryz.prog T.api_Tag) h nonce_3 v17 ∧
  ((newSlK h 4 #[.int .u8 109, .int .u8 111, .int .u8 118, .int .u8 101] T.uint8 (fun v94 h =>
  ((opK Tryz.prog .slice (convert T.sl_uint8 T.sl_uint8 (.slice v94.a v94.n v94.c)) (fun (v95 : Sl) h =>
  ((callK Tryz.prog .slice F.ref17_Four #[.int .i64 number2] (fun (v96 : Sl) h =>
  stillK (.int .i64) h ((some a_16)) v21 ∧
  stillK (.int .i64) h ((some a_15)) v20 ∧
  stillK (.int .i64) h ((some a_14)) v19 ∧
  stillAggK (sizeOfT Tryz.prog T.api_Tag) h nonce_3 v17 ∧
  newSlK h 3 #[(.int .u8 (IntKind.u8.wrap v19)), (.int .u8 (IntKind.u8.wrap v20)), (.int .u8 (IntKind.u8.wrap v21))] T.uint8 (fun v97 h =>
  newSlK h 4 #[.slice v95.a v95.n v95.c, .slice v93.a v93.n v93.c, .slice v96.a v96.n v96.c, .slice v97.a v97.n v97.c] T.sl_uint8 (fun v98 h =>
  ref22_Move.tail m0 v17 v4 R v98 h))) h) ∧
  (newSlK h 3 #[(.int .u8 (IntKind.u8.wrap v19)), (.int .u8 (IntKind.u8.wrap v20)), (.int .u8 (IntKind.u8.wrap v21))] T.uint8 (fun v101 h =>
  callK Tryz.prog .slice F.ref17_Four #[.int .i64 number2] (fun (v102 : Sl) h =>
  stillAggK (sizeOfT Tryz.prog T.api_Tag) h nonce_3 v17 ∧
  newSlK h 4 #[.slice v95.a v95.n v95.c, .slice v93.a v93.n v93.c, .slice v102.a v102.n v102.c, .slice v101.a v101.n v101.c] T.sl_uint8 (fun v103 h =>
  ref22_Move.tail m0 v17 v4 R v103 h)) h)))) h) ∧
  (((callK Tryz.prog .slice F.ref17_Four #[.int .i64 number2] (fun (v106 : Sl) h =>
  stillK (.int .i64) h ((some a_16)) v21 ∧
  stillK (.int .i64) h ((some a_15)) v20 ∧
  stillK (.int .i64) h ((some a_14)) v19 ∧
  stillAggK (sizeOfT Tryz.prog T.api_Tag) h nonce_3 v17 ∧
  ((opK Tryz.prog .slice (convert T.sl_uint8 T.sl_uint8 (.slice v94.a v94.n v94.c)) (fun (v107 : Sl) h =>
  newSlK h 3 #[(.int .u8 (IntKind.u8.wrap v19)), (.int .u8 (IntKind.u8.wrap v20)), (.int .u8 (IntKind.u8.wrap v21))] T.uint8 (fun v108 h =>
  newSlK h 4 #[.slice v107.a v107.n v107.c, .slice v93.a v93.n v93.c, .slice v106.a v106.n v106.c, .slice v108.a v108.n v108.c] T.sl_uint8 (fun v109 h =>
  ref22_Move.tail m0 v17 v4 R v109 h))) h) ∧
  (newSlK h 3 #[(.int .u8 (IntKind.u8.wrap v19)), (.int .u8 (IntKind.u8.wrap v20)), (.int .u8 (IntKind.u8.wrap v21))] T.uint8 (fun v112 h =>
  opK Tryz.prog .slice (convert T.sl_uint8 T.sl_uint8 (.slice v94.a v94.n v94.c)) (fun (v113 : Sl) h =>
  newSlK h 4 #[.slice v113.a v113.n v113.c, .slice v93.a v93.n v93.c, .slice v106.a v106.n v106.c, .slice v112.a v112.n v112.c] T.sl_uint8 (fun v114 h =>
  ref22_Move.tail m0 v17 v4 R v114 h)) h)))) h) ∧
  (newSlK h 3 #[(.int .u8 (IntKind.u8.wrap v19)), (.int .u8 (IntKind.u8.wrap v20)), (.int .u8 (IntKind.u8.wrap v21))] T.uint8 (fun v117 h =>
  ((opK Tryz.prog .slice (convert T.sl_uint8 T.sl_uint8 (.slice v94.a v94.n v94.c)) (fun (v118 : Sl) h =>
  callK Tryz.prog .slice F.ref17_Four #[.int .i64 number2] (fun (v119 : Sl) h =>
  stillAggK (sizeOfT Tryz.prog T.api_Tag) h nonce_3 v17 ∧
  newSlK h 4 #[.slice v118.a v118.n v118.c, .slice v93.a v93.n v93.c, .slice v119.a v119.n v119.c, .slice v117.a v117.n v117.c] T.sl_uint8 (fun v120 h =>
  ref22_Move.tail m0 v17 v4 R v120 h)) h) h) ∧
  (callK Tryz.prog .slice F.ref17_Four #[.int .i64 number2] (fun (v123 : Sl) h =>
  stillAggK (sizeOfT Tryz.prog T.api_Tag) h nonce_3 v17 ∧
  opK Tryz.prog .slice (convert T.sl_uint8 T.sl_uint8 (.slice v94.a v94.n v94.c)) (fun (v124 : Sl) h =>
  newSlK h 4 #[.slice v124.a v124.n v124.c, .slice v93.a v93.n v93.c, .slice v123.a v123.n v123.c, .slice v117.a v117.n v117.c] T.sl_uint8 (fun v125 h =>
  ref22_Move.tail m0 v17 v4 R v125 h)) h) h))))))))) ∧
  (((callK Tryz.prog .slice F.ref17_Four #[.int .i64 number2] (fun (v128 : Sl) h =>
  stillK (.int .i64) h ((some a_16)) v21 ∧
  stillK (.int .i64) h ((some a_15)) v20 ∧
  stillK (.int .i64) h ((some a_14)) v19 ∧
  stillAggK (sizeOfT Tryz.prog T.api_Tag) h nonce_3 v17 ∧
  ((newSlK h 4 #[.int .u8 109, .int .u8 111, .int .u8 118, .int .u8 101] T.uint8 (fun v129 h =>
  ((opK Tryz.prog .slice (convert T.sl_uint8 T.sl_uint8 (.slice v129.a v129.n v129.c)) (fun (v130 : Sl) h =>
  newSlK h 3 #[(.int .u8 (IntKind.u8.wrap v19)), (.int .u8 (IntKind.u8.wrap v20)), (.int .u8 (IntKind.u8.wrap v21))] T.uint8 (fun v131 h =>
  newSlK h 4 #[.slice v130.a v130.n v130.c, .slice v93.a v93.n v93.c, .slice v128.a v128.n v128.c, .slice v131.a v131.n v131.c] T.sl_uint8 (fun v132 h =>
  ref22_Move.tail m0 v17 v4 R v132 h))) h) ∧
  (newSlK h 3 #[(.int .u8 (IntKind.u8.wrap v19)), (.int .u8 (IntKind.u8.wrap v20)), (.int .u8 (IntKind.u8.wrap v21))] T.uint8 (fun v135 h =>
  opK Tryz.prog .slice (convert T.sl_uint8 T.sl_uint8 (.slice v129.a v129.n v129.c)) (fun (v136 : Sl) h =>
  newSlK h 4 #[.slice v136.a v136.n v136.c, .slice v93.a v93.n v93.c, .slice v128.a v128.n v128.c, .slice v135.a v135.n v135.c] T.sl_uint8 (fun v137 h =>
  ref22_Move.tail m0 v17 v4 R v137 h)) h))))) ∧
  (newSlK h 3 #[(.int .u8 (IntKind.u8.wrap v19)), (.int .u8 (IntKind.u8.wrap v20)), (.int .u8 (IntKind.u8.wrap v21))] T.uint8 (fun v140 h =>
  newSlK h 4 #[.int .u8 109, .int .u8 111, .int .u8 118, .int .u8 101] T.uint8 (fun v141 h =>
  opK Tryz.prog .slice (convert T.sl_uint8 T.sl_uint8 (.slice v141.a v141.n v141.c)) (fun (v142 : Sl) h =>
  newSlK h 4 #[.slice v142.a v142.n v142.c, .slice v93.a v93.n v93.c, .slice v128.a v128.n v128.c, .slice v140.a v140.n v140.c] T.sl_uint8 (fun v143 h =>
  ref22_Move.tail m0 v17 v4 R v143 h)) h))))) h) ∧
  (newSlK h 3 #[(.int .u8 (IntKind.u8.wrap v19)), (.int .u8 (IntKind.u8.wrap v20)), (.int .u8 (IntKind.u8.wrap v21))] T.uint8 (fun v146 h =>
  ((newSlK h 4 #[.int .u8 109, .int .u8 111, .int .u8 118, .int .u8 101] T.uint8 (fun v147 h =>
  ((opK Tryz.prog .slice (convert T.sl_uint8 T.sl_uint8 (.slice v147.a v147.n v147.c)) (fun (v148 : Sl) h =>
  callK Tryz.prog .slice F.ref17_Four #[.int .i64 number2] (fun (v149 : Sl) h =>
  stillAggK (sizeOfT Tryz.prog T.api_Tag) h nonce_3 v17 ∧
  newSlK h 4 #[.slice v148.a v148.n v148.c, .slice v93.a v93.n v93.c, .slice v149.a v149.n v149.c, .slice v146.a v146.n v146.c] T.sl_uint8 (fun v150 h =>
  ref22_Move.tail m0 v17 v4 R v150 h)) h) h) ∧
  (callK Tryz.prog .slice F.ref17_Four #[.int .i64 number2] (fun (v153 : Sl) h =>
  stillAggK (sizeOfT Tryz.prog T.api_Tag) h nonce_3 v17 ∧
  opK Tryz.prog .slice (convert T.sl_uint8 T.sl_uint8 (.slice v147.a v147.n v147.c)) (fun (v154 : Sl) h =>
  newSlK h 4 #[.slice v154.a v154.n v154.c, .slice v93.a v93.n v93.c, .slice v153.a v153.n v153.c, .slice v146.a v146.n v146.c] T.sl_uint8 (fun v155 h =>
  ref22_Move.tail m0 v17 v4 R v155 h)) h) h)))) ∧
  (callK Tryz.prog .slice F.ref17_Four #[.int .i64 number2] (fun (v158 : Sl) h =>
  stillAggK (sizeOfT Tryz.prog T.api_Tag) h nonce_3 v17 ∧
  newSlK h 4 #[.int .u8 109, .int .u8 111, .int .u8 118, .int .u8 101] T.uint8 (fun v159 h =>
  opK Tryz.prog .slice (convert T.sl_uint8 T.sl_uint8 (.slice v159.a v159.n v159.c)) (fun (v160 : Sl) h =>
  newSlK h 4 #[.slice v160.a v160.n v160.c, .slice v93.a v93.n v93.c, .slice v158.a v158.n v158.c, .slice v146.a v146.n v146.c] T.sl_uint8 (fun v161 h =>
  ref22_Move.tail m0 v17 v4 R v161 h)) h)) h)))))))) h) ∧
  (newSlK h 3 #[(.int .u8 (IntKind.u8.wrap v19)), (.int .u8 (IntKind.u8.wrap v20)), (.int .u8 (IntKind.u8.wrap v21))] T.uint8 (fun v164 h =>
  ((newSlK h 4 #[.int .u8 109, .int .u8 111, .int .u8 118, .int .u8 101] T.uint8 (fun v165 h =>
  ((opK Tryz.prog .slice (convert T.sl_uint8 T.sl_uint8 (.slice v165.a v165.n v165.c)) (fun (v166 : Sl) h =>
  callK Tryz.prog .slice F.ref22_raw #[.agg v18] (fun (v167 : Sl) h =>
  stillAggK (sizeOfT Tryz.prog T.api_Tag) h nonce_3 v17 ∧
  callK Tryz.prog .slice F.ref17_Four #[.int .i64 number2] (fun (v168 : Sl) h =>
  stillAggK (sizeOfT Tryz.prog T.api_Tag) h nonce_3 v17 ∧
  newSlK h 4 #[.slice v166.a v166.n v166.c, .slice v167.a v167.n v167.c, .slice v168.a v168.n v168.c, .slice v164.a v164.n v164.c] T.sl_uint8 (fun v169 h =>
  ref22_Move.tail m0 v17 v4 R v169 h)) h) h) h) ∧
  (callK Tryz.prog .slice F.ref22_raw #[.agg v18] (fun (v172 : Sl) h =>
  stillAggK (sizeOfT Tryz.prog T.api_Tag) h nonce_3 v17 ∧
  ((opK Tryz.prog .slice (convert T.sl_uint8 T.sl_uint8 (.slice v165.a v165.n v165.c)) (fun (v173 : Sl) h =>
  callK Tryz.prog .slice F.ref17_Four #[.int .i64 number2] (fun (v174 : Sl) h =>
  stillAggK (sizeOfT Tryz.prog T.api_Tag) h nonce_3 v17 ∧
  newSlK h 4 #[.slice v173.a v173.n v173.c, .slice v172.a v172.n v172.c, .slice v174.a v174.n v174.c, .slice v164.a v164.n v164.c] T.sl_uint8 (fun v175 h =>
  ref22_Move.tail m0 v17 v4 R v175 h)) h) h) ∧
  (callK Tryz.prog .slice F.ref17_Four #[.int .i64 number2] (fun (v178 : Sl) h =>
  stillAggK (sizeOfT Tryz.prog T.api_Tag) h nonce_3 v17 ∧
  opK Tryz.prog .slice (convert T.sl_uint8 T.sl_uint8 (.slice v165.a v165.n v165.c)) (fun (v179 : Sl) h =>
  newSlK h 4 #[.slice v179.a v179.n v179.c, .slice v172.a v172.n v172.c, .slice v178.a v178.n v178.c, .slice v164.a v164.n v164.c] T.sl_uint8 (fun v180 h =>
  ref22_Move.tail m0 v17 v4 R v180 h)) h) h))) h)))) ∧
  (callK Tryz.prog .slice F.ref22_raw #[.agg v18] (fun (v183 : Sl) h =>
  stillAggK (sizeOfT Tryz.prog T.api_Tag) h nonce_3 v17 ∧
  ((newSlK h 4 #[.int .u8 109, .int .u8 111, .int .u8 118, .int .u8 101] T.uint8 (fun v184 h =>
  ((opK Tryz.prog .slice (convert T.sl_uint8 T.sl_uint8 (.slice v184.a v184.n v184.c)) (fun (v185 : Sl) h =>
  callK Tryz.prog .slice F.ref17_Four #[.int .i64 number2] (fun (v186 : Sl) h =>
  stillAggK (sizeOfT Tryz.prog T.api_Tag) h nonce_3 v17 ∧
  newSlK h 4 #[.slice v185.a v185.n v185.c, .slice v183.a v183.n v183.c, .slice v186.a v186.n v186.c, .slice v164.a v164.n v164.c] T.sl_uint8 (fun v187 h =>
  ref22_Move.tail m0 v17 v4 R v187 h)) h) h) ∧
  (callK Tryz.prog .slice F.ref17_Four #[.int .i64 number2] (fun (v190 : Sl) h =>
  stillAggK (sizeOfT Tryz.prog T.api_Tag) h nonce_3 v17 ∧
  opK Tryz.prog .slice (convert T.sl_uint8 T.sl_uint8 (.slice v184.a v184.n v184.c)) (fun (v191 : Sl) h =>
  newSlK h 4 #[.slice v191.a v191.n v191.c, .slice v183.a v183.n v183.c, .slice v190.a v190.n v190.c, .slice v164.a v164.n v164.c] T.sl_uint8 (fun v192 h =>
  ref22_Move.tail m0 v17 v4 R v192 h)) h) h)))) ∧
  (callK Tryz.prog .slice F.ref17_Four #[.int .i64 number2] (fun (v195 : Sl) h =>
  stillAggK (sizeOfT Tryz.prog T.api_Tag) h nonce_3 v17 ∧
  newSlK h 4 #[.int .u8 109, .int .u8 111, .int .u8 118, .int .u8 101] T.uint8 (fun v196 h =>
  opK Tryz.prog .slice (convert T.sl_uint8 T.sl_uint8 (.slice v196.a v196.n v196.c)) (fun (v197 : Sl) h =>
  newSlK h 4 #[.slice v197.a v197.n v197.c, .slice v183.a v183.n v183.c, .slice v195.a v195.n v195.c, .slice v164.a v164.n v164.c] T.sl_uint8 (fun v198 h =>
  ref22_Move.tail m0 v17 v4 R v198 h)) h)) h))) h)))))))))))))))) h))))))
def ref22_Move.ann : Ann := (.seq .leaf (.seq (.seq .leaf (.cond (.seq .leaf .leaf) .leaf)) (.seq (.any (.loc 0 (.loc 6 (.loc 8 (.loc 11 (.loc 14 (.st 1 16252928 (.st 4 16515232 (.st 9 16647168 (.loc 10 (.st 12 16654336 (.loc 13 (.st 15 16711680 (.loc 16 (.alt 2 (.alt 3 (.alt 5 (.alt 7 (.last 17 (.last 18 (.last 19 (.loc 20 (.loc 21 (.last 22 (.loc 23 .done))))))) (.last 17 (.last 7 (.last 18 (.last 19 (.loc 20 (.loc 21 (.last 22 (.loc 23 .done))))))))) (.last 17 (.last 5 (.last 7 (.last 18 (.last 19 (.loc 20 (.loc 21 (.last 22 (.loc 23 .done)))))))))) (.alt 5 (.alt 3 (.alt 7 (.last 17 (.last 18 (.last 19 (.loc 20 (.loc 21 (.last 22 (.loc 23 .done))))))) (.last 17 (.last 7 (.last 18 (.last 19 (.loc 20 (.loc 21 (.last 22 (.loc 23 .done))))))))) (.alt 7 (.alt 3 (.last 17 (.last 18 (.last 19 (.loc 20 (.loc 21 (.last 22 (.loc 23 .done))))))) (.last 17 (.last 3 (.last 18 (.last 19 (.loc 20 (.loc 21 (.last 22 (.loc 23 .done))))))))) (.last 17 (.alt 3 (.last 7 (.last 18 (.last 19 (.loc 20 (.loc 21 (.last 22 (.loc 23 .done))))))) (.last 7 (.last 3 (.last 18 (.last 19 (.loc 20 (.loc 21 (.last 22 (.loc 23 .done)))))))))))) (.last 17 (.alt 3 (.last 5 (.last 7 (.last 18 (.last 19 (.loc 20 (.loc 21 (.last 22 (.loc 23 .done)))))))) (.last 5 (.alt 3 (.last 7 (.last 18 (.last 19 (.loc 20 (.loc 21 (.last 22 (.loc 23 .done))))))) (.last 7 (.last 3 (.last 18 (.last 19 (.loc 20 (.loc 21 (.last 22 (.loc 23 .done)))))))))))))) (.alt 5 (.alt 2 (.alt 3 (.alt 7 (.last 17 (.last 18 (.last 19 (.loc 20 (.loc 21 (.last 22 (.loc 23 .done))))))) (.last 17 (.last 7 (.last 18 (.last 19 (.loc 20 (.loc 21 (.last 22 (.loc 23 .done))))))))) (.alt 7 (.alt 3 (.last 17 (.last 18 (.last 19 (.loc 20 (.loc 21 (.last 22 (.loc 23 .done))))))) (.last 17 (.last 3 (.last 18 (.last 19 (.loc 20 (.loc 21 (.last 22 (.loc 23 .done))))))))) (.last 17 (.alt 3 (.last 7 (.last 18 (.last 19 (.loc 20 (.loc 21 (.last 22 (.loc 23 .done))))))) (.last 7 (.last 3 (.last 18 (.last 19 (.loc 20 (.loc 21 (.last 22 (.loc 23 .done)))))))))))) (.alt 7 (.alt 2 (.alt 3 (.last 17 (.last 18 (.last 19 (.loc 20 (.loc 21 (.last 22 (.loc 23 .done))))))) (.last 17 (.last 3 (.last 18 (.last 19 (.loc 20 (.loc 21 (.last 22 (.loc 23 .done))))))))) (.last 17 (.last 2 (.last 3 (.last 18 (.last 19 (.loc 20 (.loc 21 (.last 22 (.loc 23 .done)))))))))) (.last 17 (.alt 2 (.alt 3 (.last 7 (.last 18 (.last 19 (.loc 20 (.loc 21 (.last 22 (.loc 23 .done))))))) (.last 7 (.last 3 (.last 18 (.last 19 (.loc 20 (.loc 21 (.last 22 (.loc 23 .done))))))))) (.last 7 (.last 2 (.last 3 (.last 18 (.last 19 (.loc 20 (.loc 21 (.last 22 (.loc 23 .done))))))))))))) (.last 17 (.alt 2 (.alt 3 (.last 5 (.last 7 (.last 18 (.last 19 (.loc 20 (.loc 21 (.last 22 (.loc 23 .done)))))))) (.last 5 (.alt 3 (.last 7 (.last 18 (.last 19 (.loc 20 (.loc 21 (.last 22 (.loc 23 .done))))))) (.last 7 (.last 3 (.last 18 (.last 19 (.loc 20 (.loc 21 (.last 22 (.loc 23 .done))))))))))) (.last 5 (.alt 2 (.alt 3 (.last 7 (.last 18 (.last 19 (.loc 20 (.loc 21 (.last 22 (.loc 23 .done))))))) (.last 7 (.last 3 (.last 18 (.last 19 (.loc 20 (.loc 21 (.last 22 (.loc 23 .done))))))))) (.last 7 (.last 2 (.last 3 (.last 18 (.last 19 (.loc 20 (.loc 21 (.last 22 (.loc 23 .done))))))))))))))))))))))))))))) .leaf)))
theorem ref22_Move.eq (m0 : Option Addr) (game1 : Array Value) (number2 : Int) (x3 : Array Value) (nonce4 : Array Value) (R : Value → Heap → Prop) (h : Heap) : ref22_Move.body m0 game1 number2 x3 nonce4 R h = evFn Tryz.prog Tryz.f23 ref22_Move.ann [.pointer m0, .agg game1, .int .i64 number2, .agg x3, .agg nonce4] R h := by kernel_rfl
theorem ref22_Move.calls {m0 : Option Addr} {game1 : Array Value} {number2 : Int} {x3 : Array Value} {nonce4 : Array Value} {R : Value → Heap → Prop} {h : Heap} (H : ref22_Move.body m0 game1 number2 x3 nonce4 R h) : HC Tryz.prog F.ref22_Move #[.pointer m0, .agg game1, .int .i64 number2, .agg x3, .agg nonce4] R h :=
  evFn_sound mixed Tryz.func23 (by kernel_rfl) (ref22_Move.eq m0 game1 number2 x3 nonce4 R h ▸ H)

/-! zugzwang/zugzwangref24.Make -/
def ref24_Make.body (m0 : Option Addr) (game1 : Array Value) (number2 : Int) (x3 : Array Value) (nonce4 : Array Value) (R : Value → Heap → Prop) (h : Heap) : Prop :=
  newK h game1 T.api_Tag (fun (game_1 : Option Addr) h =>
  newK h x3 T.api_Move (fun (x_2 : Option Addr) h =>
  newK h nonce4 T.api_Tag (fun (nonce_3 : Option Addr) h =>
  newK h (zerosOf Tryz.prog T.api_Body) T.api_Body (fun (v4 : Option Addr) h =>
  newK h (zerosOf Tryz.prog T.api_Body) T.api_Body (fun (v5 : Option Addr) h =>
  loadAggK (sizeOfT Tryz.prog T.api_Tag) h game_1 (fun (v6 : Array Value) =>
  loadAggK (sizeOfT Tryz.prog T.api_Move) h x_2 (fun (v7 : Array Value) =>
  loadAggK (sizeOfT Tryz.prog T.api_Tag) h nonce_3 (fun (v8 : Array Value) =>
  callK Tryz.prog (Kd.pair .agg (.int .i64)) F.ref22_Move #[.pointer m0, .agg v6, .int .i64 number2, .agg v7, .agg v8] (fun (v9 : Array Value × Int) h =>
  newK h (zerosOf Tryz.prog T.api_Tag) T.api_Tag (fun (t_10 : Option Addr) h =>
  storeAggK (sizeOfT Tryz.prog T.api_Tag) h t_10 v9.1 (fun h =>
  if (v9.2 != 0) = true then
  buildK Tryz.prog (Instr.build T.api_Body #[]) (fun (v11 : Array Value) =>
  buildK Tryz.prog (Instr.build T.api_Body #[]) (fun (v12 : Array Value) =>
  storeAggK (sizeOfT Tryz.prog T.api_Body) h v4 v11 (fun h =>
  storeAggK (sizeOfT Tryz.prog T.api_Body) h v5 v12 (fun h =>
  quietK Tryz.prog .agg (Instr.loadAt T.api_Body (.pointer v4)) (fun r13 =>
  quietK Tryz.prog .agg (Instr.loadAt T.api_Body (.pointer v5)) (fun r14 =>
  R (.tuple #[.agg r13, .agg r14, .int .i64 v9.2]) h) h) h))))
  else
  loadAggK (sizeOfT Tryz.prog T.api_Tag) h t_10 (fun (v15 : Array Value) =>
  buildK Tryz.prog (Instr.build T.api_Body #[(0, (.int .i64 5)), (4, (.agg v15))]) (fun (v16 : Array Value) =>
  loadAggK (sizeOfT Tryz.prog T.api_Move) h x_2 (fun (v17 : Array Value) =>
  loadAggK (sizeOfT Tryz.prog T.api_Tag) h nonce_3 (fun (v18 : Array Value) =>
  buildK Tryz.prog (Instr.build T.api_Body #[(0, (.int .i64 7)), (1, (.agg v17)), (5, (.agg v18))]) (fun (v19 : Array Value) =>
  storeAggK (sizeOfT Tryz.prog T.api_Body) h v4 v16 (fun h =>
  stillAggK (sizeOfT Tryz.prog T.api_Tag) h nonce_3 v18 ∧
  stillAggK (sizeOfT Tryz.prog T.api_Move) h x_2 v17 ∧
  storeAggK (sizeOfT Tryz.prog T.api_Body) h v5 v19 (fun h =>
  quietK Tryz.prog .agg (Instr.loadAt T.api_Body (.pointer v4)) (fun r20 =>
  quietK Tryz.prog .agg (Instr.loadAt T.api_Body (.pointer v5)) (fun r21 =>
  R (.tuple #[.agg r20, .agg r21, .int .i64 0]) h) h) h)))))))))) h))))))))
def ref24_Make.ann : Ann := (.seq .leaf (.seq .leaf (.seq (.seq .leaf (.cond (.seq .leaf .leaf) .leaf)) (.seq (.any (.st 0 226 (.loc 1 (.st 2 208 (.st 3 208 (.loc 4 (.last 5 (.last 6 (.loc 7 .done))))))))) .leaf))))
theorem ref24_Make.eq (m0 : Option Addr) (game1 : Array Value) (number2 : Int) (x3 : Array Value) (nonce4 : Array Value) (R : Value → Heap → Prop) (h : Heap) : ref24_Make.body m0 game1 number2 x3 nonce4 R h = evFn Tryz.prog Tryz.f7 ref24_Make.ann [.pointer m0, .agg game1, .int .i64 number2, .agg x3, .agg nonce4] R h := by kernel_rfl
theorem ref24_Make.calls {m0 : Option Addr} {game1 : Array Value} {number2 : Int} {x3 : Array Value} {nonce4 : Array Value} {R : Value → Heap → Prop} {h : Heap} (H : ref24_Make.body m0 game1 number2 x3 nonce4 R h) : HC Tryz.prog F.ref24_Make #[.pointer m0, .agg game1, .int .i64 number2, .agg x3, .agg nonce4] R h :=
  evFn_sound mixed Tryz.func7 (by kernel_rfl) (ref24_Make.eq m0 game1 number2 x3 nonce4 R h ▸ H)

/-! zugzwang/seal.New -/
def seal_New.body (m0 : Option Addr) (game1 : Array Value) (R : Value → Heap → Prop) (h : Heap) : Prop :=
  newK h game1 T.api_Tag (fun (game_1 : Option Addr) (h : Heap) =>
  callK Tryz.prog .ptr F.tags_Maker_Copy #[(.pointer m0)] (fun (v_2 : Option Addr) (h : Heap) =>
  if v_2.isNone = true then
  R (.tuple #[(.pointer none), (.int .i64 1)]) h
  else
  loadAggK (sizeOfT Tryz.prog T.api_Tag) h game_1 (fun (v_3 : Array Value) =>
  buildK Tryz.prog (Instr.build T.seal_wax #[(0, (.pointer m0)), (1, (.agg v_3))]) (fun (v_4 : Array Value) =>
  buildK Tryz.prog (Instr.build T.seal_Envelope #[(0, (.agg v_4)), (1, (.int .i64 1))]) (fun (v_5 : Array Value) =>
  newK h v_5 T.seal_Envelope (fun (v_6 : Option Addr) (h : Heap) =>
  R (.tuple #[(.pointer v_6), (.int .i64 0)]) h))))) h)
def seal_New.ann : Ann := (.seq .leaf (.seq (.seq .leaf (.cond (.seq .leaf .leaf) .leaf)) (.seq .leaf .leaf)))
theorem seal_New.eq (m0 : Option Addr) (game1 : Array Value) (R : Value → Heap → Prop) (h : Heap) : seal_New.body m0 game1 R h = evFn Tryz.prog Tryz.f9 seal_New.ann [(.pointer m0), (.agg game1)] R h := by kernel_rfl
theorem seal_New.calls {m0 : Option Addr} {game1 : Array Value} {R : Value → Heap → Prop} {h : Heap} (H : seal_New.body m0 game1 R h) : HC Tryz.prog F.seal_New #[(.pointer m0), (.agg game1)] R h :=
  evFn_sound mixed Tryz.func9 (by kernel_rfl) (seal_New.eq m0 game1 R h ▸ H)

/-! (*zugzwang/seal.Envelope).made -/
def seal_Envelope_made.body (v0 : Option Addr) (R : Value → Heap → Prop) (h : Heap) : Prop :=
  if (!v0.isNone) = true then
  derefK v0 (fun (a_1 : Addr) =>
  fldK ((some a_1)) 66 (fun (a_2 : Addr) =>
  loadK (.int .i64) h ((some a_2)) (fun (v_3 : Int) =>
  R (.bool (v_3 != 0)) h)))
  else
  R (.bool false) h
def seal_Envelope_made.ann : Ann := (.seq .leaf (.seq .leaf .leaf))
theorem seal_Envelope_made.eq (v0 : Option Addr) (R : Value → Heap → Prop) (h : Heap) : seal_Envelope_made.body v0 R h = evFn Tryz.prog Tryz.f28 seal_Envelope_made.ann [(.pointer v0)] R h := by kernel_rfl
theorem seal_Envelope_made.calls {v0 : Option Addr} {R : Value → Heap → Prop} {h : Heap} (H : seal_Envelope_made.body v0 R h) : HC Tryz.prog F.seal_Envelope_made #[(.pointer v0)] R h :=
  evFn_sound mixed Tryz.func28 (by kernel_rfl) (seal_Envelope_made.eq v0 R h ▸ H)

/-! (*zugzwang/seal.Envelope).plain -/
def seal_Envelope_plain.body (v0 : Option Addr) (x1 : Array Value) (R : Value → Heap → Prop) (h : Heap) : Prop :=
  newK h x1 T.api_Entry (fun (v_1 : Option Addr) (h : Heap) =>
  R (.tuple #[]) h)
def seal_Envelope_plain.ann : Ann := .leaf
theorem seal_Envelope_plain.eq (v0 : Option Addr) (x1 : Array Value) (R : Value → Heap → Prop) (h : Heap) : seal_Envelope_plain.body v0 x1 R h = evFn Tryz.prog Tryz.f46 seal_Envelope_plain.ann [(.pointer v0), (.agg x1)] R h := by kernel_rfl
theorem seal_Envelope_plain.calls {v0 : Option Addr} {x1 : Array Value} {R : Value → Heap → Prop} {h : Heap} (H : seal_Envelope_plain.body v0 x1 R h) : HC Tryz.prog F.seal_Envelope_plain #[(.pointer v0), (.agg x1)] R h :=
  evFn_sound mixed Tryz.func46 (by kernel_rfl) (seal_Envelope_plain.eq v0 x1 R h ▸ H)

/-! (*zugzwang/seal.wax).put -/
def seal_wax_put.body (w0 : Option Addr) (number1 : Int) (t2 : Array Value) (R : Value → Heap → Prop) (h : Heap) : Prop :=
  newK h t2 T.api_Tag (fun (t_1 : Option Addr) (h : Heap) =>
  derefK w0 (fun (a_2 : Addr) =>
  fldK ((some a_2)) 33 (fun (a_3 : Addr) =>
  loadAggK (sizeOfT Tryz.prog T.api_Tag) h t_1 (fun (v_4 : Array Value) =>
  storeK h ((some a_3)) (.int .i64 number1) (fun (h : Heap) =>
  stillAggK (sizeOfT Tryz.prog T.api_Tag) h t_1 v_4 ∧
  derefK w0 (fun (a_5 : Addr) =>
  fldK ((some a_5)) 34 (fun (a_6 : Addr) =>
  storeAggK (sizeOfT Tryz.prog T.api_Tag) h ((some a_6)) v_4 (fun (h : Heap) =>
  R (.tuple #[]) h))))))))
def seal_wax_put.ann : Ann := (.seq .leaf (.any (.loc 0 (.loc 1 (.loc 2 (.loc 4 (.loc 5 (.st 3 896 (.last 6 (.loc 7 (.loc 8 (.last 9 .done))))))))))))
theorem seal_wax_put.eq (w0 : Option Addr) (number1 : Int) (t2 : Array Value) (R : Value → Heap → Prop) (h : Heap) : seal_wax_put.body w0 number1 t2 R h = evFn Tryz.prog Tryz.f61 seal_wax_put.ann [(.pointer w0), (.int .i64 number1), (.agg t2)] R h := by kernel_rfl
theorem seal_wax_put.calls {w0 : Option Addr} {number1 : Int} {t2 : Array Value} {R : Value → Heap → Prop} {h : Heap} (H : seal_wax_put.body w0 number1 t2 R h) : HC Tryz.prog F.seal_wax_put #[(.pointer w0), (.int .i64 number1), (.agg t2)] R h :=
  evFn_sound mixed Tryz.func61 (by kernel_rfl) (seal_wax_put.eq w0 number1 t2 R h ▸ H)

/-! (*zugzwang/seal.Envelope).sealed -/
def seal_Envelope_sealed.body (v0 : Option Addr) (e1 : Array Value) (R : Value → Heap → Prop) (h : Heap) : Prop :=
  newK h e1 T.api_Entry (fun (e_1 : Option Addr) (h : Heap) =>
  derefK v0 (fun (a_2 : Addr) =>
  fldK ((some a_2)) 66 (fun (a_3 : Addr) =>
  storeK h ((some a_3)) (.int .i64 2) (fun (h : Heap) =>
  derefK v0 (fun (a_4 : Addr) =>
  fldK ((some a_4)) 0 (fun (a_5 : Addr) =>
  fldK e_1 32 (fun (a_6 : Addr) =>
  fldK e_1 65 (fun (a_7 : Addr) =>
  fldK ((some a_7)) 6 (fun (a_8 : Addr) =>
  loadK (.int .i64) h ((some a_6)) (fun (v_9 : Int) =>
  loadAggK (sizeOfT Tryz.prog T.api_Tag) h ((some a_8)) (fun (v_10 : Array Value) =>
  callK Tryz.prog .unit F.seal_wax_put #[(.pointer ((some a_5))), (.int .i64 v_9), (.agg v_10)] (fun (v_11 : Unit) (h : Heap) =>
  R (.tuple #[]) h) h)))))))))))
def seal_Envelope_sealed.ann : Ann := (.seq .leaf (.seq .leaf (.any (.loc 0 (.loc 1 (.loc 2 (.loc 3 (.loc 5 (.loc 6 (.st 4 256 (.st 7 256 (.last 8 .done))))))))))))
theorem seal_Envelope_sealed.eq (v0 : Option Addr) (e1 : Array Value) (R : Value → Heap → Prop) (h : Heap) : seal_Envelope_sealed.body v0 e1 R h = evFn Tryz.prog Tryz.f47 seal_Envelope_sealed.ann [(.pointer v0), (.agg e1)] R h := by kernel_rfl
theorem seal_Envelope_sealed.calls {v0 : Option Addr} {e1 : Array Value} {R : Value → Heap → Prop} {h : Heap} (H : seal_Envelope_sealed.body v0 e1 R h) : HC Tryz.prog F.seal_Envelope_sealed #[(.pointer v0), (.agg e1)] R h :=
  evFn_sound mixed Tryz.func47 (by kernel_rfl) (seal_Envelope_sealed.eq v0 e1 R h ▸ H)

/-! (*zugzwang/seal.Envelope).resumed -/
def seal_Envelope_resumed.body (v0 : Option Addr) (x1 : Array Value) (R : Value → Heap → Prop) (h : Heap) : Prop :=
  newK h x1 T.api_Entry (fun (v_1 : Option Addr) (h : Heap) =>
  derefK v0 (fun (a_2 : Addr) =>
  fldK ((some a_2)) 66 (fun (a_3 : Addr) =>
  storeK h ((some a_3)) (.int .i64 3) (fun (h : Heap) =>
  R (.tuple #[]) h))))
def seal_Envelope_resumed.ann : Ann := (.seq .leaf .leaf)
theorem seal_Envelope_resumed.eq (v0 : Option Addr) (x1 : Array Value) (R : Value → Heap → Prop) (h : Heap) : seal_Envelope_resumed.body v0 x1 R h = evFn Tryz.prog Tryz.f48 seal_Envelope_resumed.ann [(.pointer v0), (.agg x1)] R h := by kernel_rfl
theorem seal_Envelope_resumed.calls {v0 : Option Addr} {x1 : Array Value} {R : Value → Heap → Prop} {h : Heap} (H : seal_Envelope_resumed.body v0 x1 R h) : HC Tryz.prog F.seal_Envelope_resumed #[(.pointer v0), (.agg x1)] R h :=
  evFn_sound mixed Tryz.func48 (by kernel_rfl) (seal_Envelope_resumed.eq v0 x1 R h ▸ H)

/-! (*zugzwang/seal.Envelope).opens -/
def seal_Envelope_opens.body (v0 : Option Addr) (e1 : Array Value) (R : Value → Heap → Prop) (h : Heap) : Prop :=
  newK h e1 T.api_Entry (fun (e_1 : Option Addr) (h : Heap) =>
  fldK e_1 65 (fun (a_2 : Addr) =>
  fldK ((some a_2)) 1 (fun (a_3 : Addr) =>
  derefK v0 (fun (a_4 : Addr) =>
  fldK ((some a_4)) 66 (fun (a_5 : Addr) =>
  loadAggK (sizeOfT Tryz.prog T.api_Move) h ((some a_3)) (fun (v_6 : Array Value) =>
  storeK h ((some a_5)) (.int .i64 1) (fun (h : Heap) =>
  stillAggK (sizeOfT Tryz.prog T.api_Move) h ((some a_3)) v_6 ∧
  derefK v0 (fun (a_7 : Addr) =>
  fldK ((some a_7)) 67 (fun (a_8 : Addr) =>
  storeAggK (sizeOfT Tryz.prog T.api_Move) h ((some a_8)) v_6 (fun (h : Heap) =>
  derefK v0 (fun (a_9 : Addr) =>
  fldK ((some a_9)) 70 (fun (a_10 : Addr) =>
  storeK h ((some a_10)) (.bool true) (fun (h : Heap) =>
  derefK v0 (fun (a_11 : Addr) =>
  fldK ((some a_11)) 0 (fun (a_12 : Addr) =>
  buildK Tryz.prog (Instr.build T.api_Tag #[]) (fun (v_13 : Array Value) =>
  callK Tryz.prog .unit F.seal_wax_put #[(.pointer ((some a_12))), (.int .i64 0), (.agg v_13)] (fun (v_14 : Unit) (h : Heap) =>
  R (.tuple #[]) h) h))))))))))))))))
def seal_Envelope_opens.ann : Ann := (.seq .leaf (.seq (.any (.loc 0 (.loc 1 (.loc 2 (.loc 3 (.loc 4 (.loc 6 (.loc 7 (.st 5 32256 (.last 8 (.loc 9 (.loc 10 (.last 11 (.loc 12 (.loc 13 (.last 14 .done)))))))))))))))) .leaf))
theorem seal_Envelope_opens.eq (v0 : Option Addr) (e1 : Array Value) (R : Value → Heap → Prop) (h : Heap) : seal_Envelope_opens.body v0 e1 R h = evFn Tryz.prog Tryz.f49 seal_Envelope_opens.ann [(.pointer v0), (.agg e1)] R h := by kernel_rfl
theorem seal_Envelope_opens.calls {v0 : Option Addr} {e1 : Array Value} {R : Value → Heap → Prop} {h : Heap} (H : seal_Envelope_opens.body v0 e1 R h) : HC Tryz.prog F.seal_Envelope_opens #[(.pointer v0), (.agg e1)] R h :=
  evFn_sound mixed Tryz.func49 (by kernel_rfl) (seal_Envelope_opens.eq v0 e1 R h ▸ H)

/-! zugzwang/seal.deeds -/
def seal_deeds.body  (R : Value → Heap → Prop) (h : Heap) : Prop :=
  buildK Tryz.prog (Instr.build T.seal_deed #[(0, (.int .i64 1)), (1, (.int .i64 0)), (2, ((Value.func (.func F.seal_Envelope_plain) #[] #[])))]) (fun (v1 : Array Value) =>
  newK h (zerosOf Tryz.prog T.seal_deed) T.seal_deed (fun (plain_2 : Option Addr) h =>
  storeAggK (sizeOfT Tryz.prog T.seal_deed) h plain_2 v1 (fun h =>
  opK Tryz.prog .map (Instr.makeMap T.map_aapi_Say_seal_deed none) (fun (v3 : Option Nat) h =>
  buildK Tryz.prog (Instr.build T.seal_deed #[(0, (.int .i64 1)), (1, (.int .i64 0)), (2, ((Value.func (.func F.seal_Envelope_sealed) #[] #[])))]) (fun (v4 : Array Value) =>
  unitK Tryz.prog (Instr.mapUpdate T.map_aapi_Say_seal_deed (.map v3) (.int .i64 5) (.agg v4)) (fun h =>
  buildK Tryz.prog (Instr.build T.seal_deed #[(0, (.int .i64 2)), (1, (.int .i64 1)), (2, ((Value.func (.func F.seal_Envelope_resumed) #[] #[])))]) (fun (v5 : Array Value) =>
  unitK Tryz.prog (Instr.mapUpdate T.map_aapi_Say_seal_deed (.map v3) (.int .i64 6) (.agg v5)) (fun h =>
  buildK Tryz.prog (Instr.build T.seal_deed #[(0, (.int .i64 3)), (1, (.int .i64 2)), (2, ((Value.func (.func F.seal_Envelope_opens) #[] #[])))]) (fun (v6 : Array Value) =>
  unitK Tryz.prog (Instr.mapUpdate T.map_aapi_Say_seal_deed (.map v3) (.int .i64 7) (.agg v6)) (fun h =>
  buildK Tryz.prog (Instr.build T.seal_deed #[(0, (.int .i64 0)), (1, (.int .i64 0)), (2, ((Value.func (.func F.seal_Envelope_plain) #[] #[])))]) (fun (v7 : Array Value) =>
  unitK Tryz.prog (Instr.mapUpdate T.map_aapi_Say_seal_deed (.map v3) (.int .i64 4) (.agg v7)) (fun h =>
  loadAggK (sizeOfT Tryz.prog T.seal_deed) h plain_2 (fun (v8 : Array Value) =>
  unitK Tryz.prog (Instr.mapUpdate T.map_aapi_Say_seal_deed (.map v3) (.int .i64 1) (.agg v8)) (fun h =>
  loadAggK (sizeOfT Tryz.prog T.seal_deed) h plain_2 (fun (v9 : Array Value) =>
  unitK Tryz.prog (Instr.mapUpdate T.map_aapi_Say_seal_deed (.map v3) (.int .i64 2) (.agg v9)) (fun h =>
  loadAggK (sizeOfT Tryz.prog T.seal_deed) h plain_2 (fun (v10 : Array Value) =>
  unitK Tryz.prog (Instr.mapUpdate T.map_aapi_Say_seal_deed (.map v3) (.int .i64 3) (.agg v10)) (fun h =>
  R (.map v3) h) h)) h)) h)) h)) h)) h)) h)) h)))
def seal_deeds.ann : Ann := (.seq .leaf (.seq .leaf (.seq .leaf .leaf)))
theorem seal_deeds.eq  (R : Value → Heap → Prop) (h : Heap) : seal_deeds.body  R h = evFn Tryz.prog Tryz.f29 seal_deeds.ann [] R h := by kernel_rfl
theorem seal_deeds.calls  {R : Value → Heap → Prop} {h : Heap} (H : seal_deeds.body  R h) : HC Tryz.prog F.seal_deeds #[] R h :=
  evFn_sound mixed Tryz.func29 (by kernel_rfl) (seal_deeds.eq  R h ▸ H)

/-! zugzwang/msg.Entry -/
def msg_Entry.body (e0 : Array Value) (R : Value → Heap → Prop) (h : Heap) : Prop :=
  newK h e0 T.api_Entry (fun (e_1 : Option Addr) (h : Heap) =>
  fldK e_1 32 (fun (a_2 : Addr) =>
  loadK (.int .i64) h ((some a_2)) (fun (v_3 : Int) =>
  if (decide (v_3 ≥ 0)) = true then
  fldK e_1 32 (fun (a_4 : Addr) =>
  loadK (.int .i64) h ((some a_4)) (fun (v_5 : Int) =>
  if (decide (v_5 ≤ 4294967295)) = true then
  fldK e_1 65 (fun (a_6 : Addr) =>
  loadAggK (sizeOfT Tryz.prog T.api_Body) h ((some a_6)) (fun (v_7 : Array Value) =>
  callK Tryz.prog .bool F.msg_Body #[(.agg v_7)] (fun (v_8 : Bool) (h : Heap) =>
  R (.bool v_8) h) h))
  else
  R (.bool false) h))
  else
  R (.bool false) h)))
def msg_Entry.ann : Ann := (.seq .leaf (.seq .leaf .leaf))
theorem msg_Entry.eq (e0 : Array Value) (R : Value → Heap → Prop) (h : Heap) : msg_Entry.body e0 R h = evFn Tryz.prog Tryz.f31 msg_Entry.ann [(.agg e0)] R h := by kernel_rfl
theorem msg_Entry.calls {e0 : Array Value} {R : Value → Heap → Prop} {h : Heap} (H : msg_Entry.body e0 R h) : HC Tryz.prog F.msg_Entry #[(.agg e0)] R h :=
  evFn_sound mixed Tryz.func31 (by kernel_rfl) (msg_Entry.eq e0 R h ▸ H)

/-! zugzwang/commit.opened -/
def commit_opened.body (t0 : Array Value) (ask1 : Value) (R : Value → Heap → Prop) (h : Heap) : Prop :=
  newK h t0 T.api_Tag (fun (t_1 : Option Addr) (h : Heap) =>
  callV Tryz.prog (Kd.pair .agg (.int .i64)) ask1 #[] (fun (v_2 : Array Value × Int) (h : Heap) =>
  newK h (zerosOf Tryz.prog T.api_Tag) T.api_Tag (fun (x_3 : Option Addr) (h : Heap) =>
  storeAggK (sizeOfT Tryz.prog T.api_Tag) h x_3 v_2.1 (fun (h : Heap) =>
  if (v_2.2 != 0) = true then
  R (.int .i64 v_2.2) h
  else
  loadAggK (sizeOfT Tryz.prog T.api_Tag) h x_3 (fun (v_4 : Array Value) =>
  loadAggK (sizeOfT Tryz.prog T.api_Tag) h t_1 (fun (v_5 : Array Value) =>
  eqK Tryz.prog (binSem .neq T.api_Tag (.tmp 17) (.tmp 18) (.agg v_4) (.agg v_5)) (fun (v_6 : Bool) =>
  if v_6 = true then
  R (.int .i64 7) h
  else
  R (.int .i64 0) h)))))) h)
def commit_opened.ann : Ann := (.seq .leaf (.seq .leaf (.seq (.block (.seq .leaf (.cond (.seq .leaf .leaf) (.seq .leaf (.cond (.seq .leaf .leaf) .leaf))))) (.seq .leaf .leaf))))
theorem commit_opened.eq (t0 : Array Value) (ask1 : Value) (R : Value → Heap → Prop) (h : Heap) : commit_opened.body t0 ask1 R h = evFn Tryz.prog Tryz.f62 commit_opened.ann [(.agg t0), ask1] R h := by kernel_rfl
theorem commit_opened.calls {t0 : Array Value} {ask1 : Value} {R : Value → Heap → Prop} {h : Heap} (H : commit_opened.body t0 ask1 R h) : HC Tryz.prog F.commit_opened #[(.agg t0), ask1] R h :=
  evFn_sound mixed Tryz.func62 (by kernel_rfl) (commit_opened.eq t0 ask1 R h ▸ H)

/-! zugzwang/commit.OpenMove$1 -/
def commit_OpenMove_1.body (x0 : Option Addr) (x1 : Option Addr) (x2 : Option Addr) (x3 : Option Addr) (x4 : Option Addr) (R : Value → Heap → Prop) (h : Heap) : Prop :=
  newK h (zerosOf Tryz.prog T.api_Tag) T.api_Tag (fun (v_1 : Option Addr) (h : Heap) =>
  loadK .ptr h x0 (fun (v_2 : Option Addr) =>
  loadAggK (sizeOfT Tryz.prog T.api_Tag) h x1 (fun (v_3 : Array Value) =>
  loadK (.int .i64) h x2 (fun (v_4 : Int) =>
  loadAggK (sizeOfT Tryz.prog T.api_Move) h x3 (fun (v_5 : Array Value) =>
  loadAggK (sizeOfT Tryz.prog T.api_Tag) h x4 (fun (v_6 : Array Value) =>
  callK Tryz.prog (Kd.pair .agg (.int .i64)) F.commit_Move #[(.pointer v_2), (.agg v_3), (.int .i64 v_4), (.agg v_5), (.agg v_6)] (fun (v_7 : Array Value × Int) (h : Heap) =>
  storeAggK (sizeOfT Tryz.prog T.api_Tag) h v_1 v_7.1 (fun (h : Heap) =>
  quietK Tryz.prog .agg (Instr.loadAt T.api_Tag (.pointer v_1)) (fun (r_8 : Array Value) =>
  R (.tuple #[(.agg r_8), (.int .i64 v_7.2)]) h) h)) h))))))
def commit_OpenMove_1.ann : Ann := (.seq .leaf (.seq .leaf .leaf))
theorem commit_OpenMove_1.eq (x0 : Option Addr) (x1 : Option Addr) (x2 : Option Addr) (x3 : Option Addr) (x4 : Option Addr) (R : Value → Heap → Prop) (h : Heap) : commit_OpenMove_1.body x0 x1 x2 x3 x4 R h = evFn Tryz.prog Tryz.f63 commit_OpenMove_1.ann [(.pointer x0), (.pointer x1), (.pointer x2), (.pointer x3), (.pointer x4)] R h := by kernel_rfl
theorem commit_OpenMove_1.calls {x0 : Option Addr} {x1 : Option Addr} {x2 : Option Addr} {x3 : Option Addr} {x4 : Option Addr} {R : Value → Heap → Prop} {h : Heap} (H : commit_OpenMove_1.body x0 x1 x2 x3 x4 R h) : HC Tryz.prog F.commit_OpenMove_1 #[(.pointer x0), (.pointer x1), (.pointer x2), (.pointer x3), (.pointer x4)] R h :=
  evFn_sound mixed Tryz.func63 (by kernel_rfl) (commit_OpenMove_1.eq x0 x1 x2 x3 x4 R h ▸ H)

/-! zugzwang/commit.OpenMove -/
def commit_OpenMove.body (m0 : Option Addr) (t1 : Array Value) (game2 : Array Value) (number3 : Int) (x4 : Array Value) (nonce5 : Array Value) (R : Value → Heap → Prop) (h : Heap) : Prop :=
  newK h #[(.pointer m0)] T.p_tags_Maker (fun (m_1 : Option Addr) (h : Heap) =>
  newK h t1 T.api_Tag (fun (t_2 : Option Addr) (h : Heap) =>
  newK h game2 T.api_Tag (fun (game_3 : Option Addr) (h : Heap) =>
  newK h #[(.int .i64 number3)] T.int (fun (number_4 : Option Addr) (h : Heap) =>
  newK h x4 T.api_Move (fun (x_5 : Option Addr) (h : Heap) =>
  newK h nonce5 T.api_Tag (fun (nonce_6 : Option Addr) (h : Heap) =>
  loadAggK (sizeOfT Tryz.prog T.api_Tag) h t_2 (fun (v_7 : Array Value) =>
  callK Tryz.prog (.int .i64) F.commit_opened #[(.agg v_7), ((Value.func (.func F.commit_OpenMove_1) #[] #[(.pointer m_1), (.pointer game_3), (.pointer number_4), (.pointer x_5), (.pointer nonce_6)]))] (fun (v_8 : Int) (h : Heap) =>
  R (.int .i64 v_8) h) h)))))))
def commit_OpenMove.ann : Ann := (.seq .leaf (.seq .leaf .leaf))
theorem commit_OpenMove.eq (m0 : Option Addr) (t1 : Array Value) (game2 : Array Value) (number3 : Int) (x4 : Array Value) (nonce5 : Array Value) (R : Value → Heap → Prop) (h : Heap) : commit_OpenMove.body m0 t1 game2 number3 x4 nonce5 R h = evFn Tryz.prog Tryz.f51 commit_OpenMove.ann [(.pointer m0), (.agg t1), (.agg game2), (.int .i64 number3), (.agg x4), (.agg nonce5)] R h := by kernel_rfl
theorem commit_OpenMove.calls {m0 : Option Addr} {t1 : Array Value} {game2 : Array Value} {number3 : Int} {x4 : Array Value} {nonce5 : Array Value} {R : Value → Heap → Prop} {h : Heap} (H : commit_OpenMove.body m0 t1 game2 number3 x4 nonce5 R h) : HC Tryz.prog F.commit_OpenMove #[(.pointer m0), (.agg t1), (.agg game2), (.int .i64 number3), (.agg x4), (.agg nonce5)] R h :=
  evFn_sound mixed Tryz.func51 (by kernel_rfl) (commit_OpenMove.eq m0 t1 game2 number3 x4 nonce5 R h ▸ H)

/-! (*zugzwang/seal.wax).fits -/
def seal_wax_fits.body (w0 : Option Addr) (b1 : Array Value) (R : Value → Heap → Prop) (h : Heap) : Prop :=
  newK h b1 T.api_Body (fun (b_1 : Option Addr) h =>
  derefK w0 (fun (a_2 : Addr) =>
  fldK ((some a_2)) 0 (fun (a_3 : Addr) =>
  derefK w0 (fun (a_4 : Addr) =>
  fldK ((some a_4)) 34 (fun (a_5 : Addr) =>
  derefK w0 (fun (a_6 : Addr) =>
  fldK ((some a_6)) 1 (fun (a_7 : Addr) =>
  derefK w0 (fun (a_8 : Addr) =>
  fldK ((some a_8)) 33 (fun (a_9 : Addr) =>
  fldK b_1 1 (fun (a_10 : Addr) =>
  fldK b_1 38 (fun (a_11 : Addr) =>
  loadK .ptr h ((some a_3)) (fun (v12 : Option Addr) =>
  loadAggK (sizeOfT Tryz.prog T.api_Tag) h ((some a_5)) (fun (v13 : Array Value) =>
  loadAggK (sizeOfT Tryz.prog T.api_Tag) h ((some a_7)) (fun (v14 : Array Value) =>
  loadK (.int .i64) h ((some a_9)) (fun (v15 : Int) =>
  loadAggK (sizeOfT Tryz.prog T.api_Move) h ((some a_10)) (fun (v16 : Array Value) =>
  loadAggK (sizeOfT Tryz.prog T.api_Tag) h ((some a_11)) (fun (v17 : Array Value) =>
  callK Tryz.prog (.int .i64) F.commit_OpenMove #[.pointer v12, .agg v13, .agg v14, .int .i64 v15, .agg v16, .agg v17] (fun (v18 : Int) h =>
  R (.bool (v18 == 0)) h) h)))))))))))))))))
def seal_wax_fits.ann : Ann := (.seq .leaf (.seq (.any (.loc 0 (.loc 1 (.loc 2 (.loc 4 (.loc 5 (.loc 6 (.loc 8 (.loc 9 (.loc 10 (.loc 12 (.loc 13 (.loc 14 (.loc 16 (.loc 18 (.st 3 7340032 (.st 7 7340032 (.st 11 7340032 (.st 15 7340032 (.st 17 7340032 (.st 19 7340032 (.last 20 (.loc 21 (.loc 22 .done)))))))))))))))))))))))) .leaf))
theorem seal_wax_fits.eq (w0 : Option Addr) (b1 : Array Value) (R : Value → Heap → Prop) (h : Heap) : seal_wax_fits.body w0 b1 R h = evFn Tryz.prog Tryz.f32 seal_wax_fits.ann [.pointer w0, .agg b1] R h := by kernel_rfl
theorem seal_wax_fits.calls {w0 : Option Addr} {b1 : Array Value} {R : Value → Heap → Prop} {h : Heap} (H : seal_wax_fits.body w0 b1 R h) : HC Tryz.prog F.seal_wax_fits #[.pointer w0, .agg b1] R h :=
  evFn_sound mixed Tryz.func32 (by kernel_rfl) (seal_wax_fits.eq w0 b1 R h ▸ H)

/-! (*zugzwang/seal.Envelope).Why -/
def seal_Envelope_Why.body (v0 : Option Addr) (e1 : Array Value) (R : Value → Heap → Prop) (h : Heap) : Prop :=
  newK h e1 T.api_Entry (fun (e_1 : Option Addr) h =>
  callK Tryz.prog .bool F.seal_Envelope_made #[.pointer v0] (fun (v2 : Bool) h =>
  if (!v2) = true then
  R (.int .i64 1) h
  else
  joinW (fun (s_3 : Option Addr) h =>
  loadAggK (sizeOfT Tryz.prog T.api_Entry) h e_1 (fun (v4 : Array Value) =>
  callK Tryz.prog .bool F.msg_Entry #[.agg v4] (fun (v5 : Bool) h =>
  if (!v5) = true then
  R (.int .i64 2) h
  else
  fldK e_1 0 (fun (a_6 : Addr) =>
  loadAggK (sizeOfT Tryz.prog T.api_Tag) h ((some a_6)) (fun (v7 : Array Value) =>
  derefK v0 (fun (a_8 : Addr) =>
  fldK ((some a_8)) 0 (fun (a_9 : Addr) =>
  fldK ((some a_9)) 1 (fun (a_10 : Addr) =>
  loadAggK (sizeOfT Tryz.prog T.api_Tag) h ((some a_10)) (fun (v11 : Array Value) =>
  eqK Tryz.prog (binSem .neq T.api_Tag (.tmp 20) (.tmp 25) (.agg v7) (.agg v11)) (fun (v12 : Bool) =>
  if v12 = true then
  R (.int .i64 14) h
  else
  joinW (fun (s_13 : Bool) h =>
  if s_13 = true then
  R (.int .i64 18) h
  else
  joinW (fun (s_14 : Bool) h =>
  if s_14 = true then
  R (.int .i64 11) h
  else
  fldK s_3 0 (fun (a_15 : Addr) =>
  loadK (.int .i64) h ((some a_15)) (fun (v16 : Int) =>
  if (v16 == 3) = true then
  derefK v0 (fun (a_17 : Addr) =>
  fldK ((some a_17)) 0 (fun (a_18 : Addr) =>
  fldK e_1 65 (fun (a_19 : Addr) =>
  loadAggK (sizeOfT Tryz.prog T.api_Body) h ((some a_19)) (fun (v20 : Array Value) =>
  callK Tryz.prog .bool F.seal_wax_fits #[(.pointer ((some a_18))), .agg v20] (fun (v21 : Bool) h =>
  if (!v21) = true then
  R (.int .i64 16) h
  else
  R (.int .i64 0) h) h))))
  else
  R (.int .i64 0) h)))
  (fun J_22 =>
  fldK s_3 1 (fun (a_23 : Addr) =>
  loadK (.int .i64) h ((some a_23)) (fun (v24 : Int) =>
  if (decide (v24 > 0)) = true then
  fldK e_1 32 (fun (a_25 : Addr) =>
  loadK (.int .i64) h ((some a_25)) (fun (v26 : Int) =>
  derefK v0 (fun (a_27 : Addr) =>
  fldK ((some a_27)) 0 (fun (a_28 : Addr) =>
  fldK ((some a_28)) 33 (fun (a_29 : Addr) =>
  loadK (.int .i64) h ((some a_29)) (fun (v30 : Int) =>
  fldK s_3 1 (fun (a_31 : Addr) =>
  loadK (.int .i64) h ((some a_31)) (fun (v32 : Int) =>
  J_22 (v26 != (IntKind.i64.wrap (v30 + v32))) h))))))))
  else
  J_22 false h))))
  (fun J_33 =>
  fldK s_3 0 (fun (a_34 : Addr) =>
  loadK (.int .i64) h ((some a_34)) (fun (v35 : Int) =>
  if (v35 != 0) = true then
  fldK s_3 0 (fun (a_36 : Addr) =>
  loadK (.int .i64) h ((some a_36)) (fun (v37 : Int) =>
  derefK v0 (fun (a_38 : Addr) =>
  fldK ((some a_38)) 66 (fun (a_39 : Addr) =>
  loadK (.int .i64) h ((some a_39)) (fun (v40 : Int) =>
  J_33 (v37 != v40) h)))))
  else
  J_33 false h))))))))))) h))
  (fun J_41 =>
  fldK e_1 65 (fun (a_42 : Addr) =>
  fldK ((some a_42)) 0 (fun (a_43 : Addr) =>
  loadK (.int .i64) h ((some a_43)) (fun (v44 : Int) =>
  ((callK Tryz.prog .map F.seal_deeds #[] (fun (v45 : Option Nat) h =>
  stillK (.int .i64) h ((some a_43)) v44 ∧
  ((quietK Tryz.prog .agg (Instr.lookup T.map_aapi_Say_seal_deed (.map v45) (.int .i64 v44) false) (fun (v46 : Array Value) =>
  newK h (zerosOf Tryz.prog T.seal_deed) T.seal_deed (fun (d_47 : Option Addr) h =>
  storeAggK (sizeOfT Tryz.prog T.seal_deed) h d_47 v46 (fun h =>
  J_41 d_47 h))) h) ∧
  (newK h (zerosOf Tryz.prog T.seal_deed) T.seal_deed (fun (d_48 : Option Addr) h =>
  quietK Tryz.prog .agg (Instr.lookup T.map_aapi_Say_seal_deed (.map v45) (.int .i64 v44) false) (fun (v49 : Array Value) =>
  storeAggK (sizeOfT Tryz.prog T.seal_deed) h d_48 v49 (fun h =>
  J_41 d_48 h)) h)))) h) ∧
  (newK h (zerosOf Tryz.prog T.seal_deed) T.seal_deed (fun (d_50 : Option Addr) h =>
  callK Tryz.prog .map F.seal_deeds #[] (fun (v51 : Option Nat) h =>
  stillK (.int .i64) h ((some a_43)) v44 ∧
  quietK Tryz.prog .agg (Instr.lookup T.map_aapi_Say_seal_deed (.map v51) (.int .i64 v44) false) (fun (v52 : Array Value) =>
  storeAggK (sizeOfT Tryz.prog T.seal_deed) h d_50 v52 (fun h =>
  J_41 d_50 h)) h) h)))))))) h)
def seal_Envelope_Why.ann : Ann := (.seq .leaf (.seq (.seq .leaf (.cond (.seq .leaf .leaf) .leaf)) (.join [(5, .ptr)] (.any (.loc 1 (.loc 2 (.st 3 80 (.alt 0 (.alt 4 (.last 5 (.last 6 .done)) (.last 5 (.last 4 (.last 6 .done)))) (.last 5 (.last 0 (.last 4 (.last 6 .done))))))))) (.seq (.block (.seq .leaf (.cond (.seq .leaf .leaf) (.seq .leaf (.cond (.seq .leaf .leaf) (.join [(27, .bool)] .leaf (.cond (.seq .leaf .leaf) (.join [(40, .bool)] .leaf (.cond (.seq .leaf .leaf) (.seq (.any (.loc 0 (.st 1 8188 (.loc 2 (.loc 3 (.locA 4 (.loc 5 (.loc 6 (.loc 7 (.st 8 7680 (.last 9 (.loc 10 (.loc 11 (.loc 12 .done)))))))) (.loc 5 (.loc 6 (.loc 7 (.loc 8 (.loc 9 (.loc 10 (.loc 11 (.loc 12 .done)))))))))))))) (.cond (.seq .leaf .leaf) .leaf))))))))))) (.seq .leaf .leaf)))))
theorem seal_Envelope_Why.eq (v0 : Option Addr) (e1 : Array Value) (R : Value → Heap → Prop) (h : Heap) : seal_Envelope_Why.body v0 e1 R h = evFn Tryz.prog Tryz.f16 seal_Envelope_Why.ann [.pointer v0, .agg e1] R h := by kernel_rfl
theorem seal_Envelope_Why.calls {v0 : Option Addr} {e1 : Array Value} {R : Value → Heap → Prop} {h : Heap} (H : seal_Envelope_Why.body v0 e1 R h) : HC Tryz.prog F.seal_Envelope_Why #[.pointer v0, .agg e1] R h :=
  evFn_sound mixed Tryz.func16 (by kernel_rfl) (seal_Envelope_Why.eq v0 e1 R h ▸ H)

/-! (*zugzwang/seal.Envelope).Take -/
def seal_Envelope_Take.body (v0 : Option Addr) (l1 : Sl) (R : Value → Heap → Prop) (h : Heap) : Prop :=
  callK Tryz.prog .bool F.seal_Envelope_made #[.pointer v0] (fun (v1 : Bool) h =>
  if (!v1) = true then
  R (.int .i64 1) h
  else
  loopW (fun X_3 (s_2 : Int) (h : Heap) =>
  if (decide (s_2 < ((l1.n : Int)))) = true then
  idxK l1 s_2 (sizeOfT Tryz.prog T.api_Entry) (fun (a_4 : Addr) =>
  loadAggK (sizeOfT Tryz.prog T.api_Entry) h ((some a_4)) (fun (v5 : Array Value) =>
  newK h (zerosOf Tryz.prog T.api_Entry) T.api_Entry (fun (e_6 : Option Addr) h =>
  storeAggK (sizeOfT Tryz.prog T.api_Entry) h e_6 v5 (fun h =>
  loadAggK (sizeOfT Tryz.prog T.api_Entry) h e_6 (fun (v7 : Array Value) =>
  callK Tryz.prog (.int .i64) F.seal_Envelope_Why #[.pointer v0, .agg v7] (fun (v8 : Int) h =>
  if (v8 != 0) = true then
  R (.int .i64 v8) h
  else
  fldK e_6 65 (fun (a_9 : Addr) =>
  fldK ((some a_9)) 0 (fun (a_10 : Addr) =>
  loadK (.int .i64) h ((some a_10)) (fun (v11 : Int) =>
  loadAggK (sizeOfT Tryz.prog T.api_Entry) h e_6 (fun (v12 : Array Value) =>
  callK Tryz.prog .map F.seal_deeds #[] (fun (v13 : Option Nat) h =>
  stillAggK (sizeOfT Tryz.prog T.api_Entry) h e_6 v12 ∧
  stillK (.int .i64) h ((some a_10)) v11 ∧
  quietK Tryz.prog .agg (Instr.lookup T.map_aapi_Say_seal_deed (.map v13) (.int .i64 v11) false) (fun (v14 : Array Value) =>
  stillAggK (sizeOfT Tryz.prog T.api_Entry) h e_6 v12 ∧
  partK .any v14 2 (fun (v15 : Value) =>
  callV Tryz.prog .unit v15 #[.pointer v0, .agg v12] (fun (v16 : Unit) h =>
  X_3 (IntKind.i64.wrap (s_2 + 1)) h) h)) h) h))))) h)))))
  else
  R (.int .i64 0) h) 0 h) h
def seal_Envelope_Take.ann : Ann := (.seq .leaf (.seq (.seq .leaf (.cond (.seq .leaf .leaf) .leaf)) (.seq (.seq .leaf (.block (.loop [(13, (.int .i64))] (.seq .leaf (.seq (.cond .leaf .leaf) (.seq (.block (.seq .leaf (.seq (.seq .leaf (.seq .leaf (.cond (.seq .leaf .leaf) .leaf))) (.any (.loc 1 (.loc 2 (.loc 6 (.st 3 304 (.st 7 256 (.last 0 (.last 4 (.loc 5 (.last 8 .done))))))))))))) .leaf)))))) (.seq .leaf .leaf))))
theorem seal_Envelope_Take.eq (v0 : Option Addr) (l1 : Sl) (R : Value → Heap → Prop) (h : Heap) : seal_Envelope_Take.body v0 l1 R h = evFn Tryz.prog Tryz.f13 seal_Envelope_Take.ann [.pointer v0, .slice l1.a l1.n l1.c] R h := by kernel_rfl
theorem seal_Envelope_Take.calls {v0 : Option Addr} {l1 : Sl} {R : Value → Heap → Prop} {h : Heap} (H : seal_Envelope_Take.body v0 l1 R h) : HC Tryz.prog F.seal_Envelope_Take #[.pointer v0, .slice l1.a l1.n l1.c] R h :=
  evFn_sound mixed Tryz.func13 (by kernel_rfl) (seal_Envelope_Take.eq v0 l1 R h ▸ H)

/-! (*zugzwang/tags.Maker).Draw -/
def tags_Maker_Draw.body (m0 : Option Addr) (k1 : Int) (R : Value → Heap → Prop) (h : Heap) : Prop :=
  newK h (zerosOf Tryz.prog T.api_Tag) T.api_Tag (fun (v1 : Option Addr) h =>
  callK Tryz.prog .bool F.tags_Maker_there #[.pointer m0] (fun (v2 : Bool) h =>
  if (!v2) = true then
  buildK Tryz.prog (Instr.build T.api_Tag #[]) (fun (v3 : Array Value) =>
  storeAggK (sizeOfT Tryz.prog T.api_Tag) h v1 v3 (fun h =>
  quietK Tryz.prog .agg (Instr.loadAt T.api_Tag (.pointer v1)) (fun r4 =>
  R (.agg r4) h) h))
  else
  derefK m0 (fun (a_5 : Addr) =>
  fldK ((some a_5)) 1 (fun (a_6 : Addr) =>
  loadK .bool h ((some a_6)) (fun (v7 : Bool) =>
  if v7 = true then
  derefK m0 (fun (a_8 : Addr) =>
  fldK ((some a_8)) 2 (fun (a_9 : Addr) =>
  loadK .slice h ((some a_9)) (fun (v10 : Sl) =>
  ((newSlK h 4 #[.int .u8 100, .int .u8 114, .int .u8 97, .int .u8 119] T.uint8 (fun v11 h =>
  ((opK Tryz.prog .slice (convert T.sl_uint8 T.sl_uint8 (.slice v11.a v11.n v11.c)) (fun (v12 : Sl) h =>
  callK Tryz.prog .slice F.tags_eight #[.int .i64 k1] (fun (v13 : Sl) h =>
  stillK .slice h ((some a_9)) v10 ∧
  newSlK h 3 #[.slice v12.a v12.n v12.c, .slice v10.a v10.n v10.c, .slice v13.a v13.n v13.c] T.sl_uint8 (fun v14 h =>
  callK Tryz.prog .agg F.digest_Of #[.slice v14.a v14.n v14.c] (fun (v15 : Array Value) h =>
  storeAggK (sizeOfT Tryz.prog T.api_Tag) h v1 v15 (fun h =>
  quietK Tryz.prog .agg (Instr.loadAt T.api_Tag (.pointer v1)) (fun r16 =>
  R (.agg r16) h) h)) h)) h) h) ∧
  (callK Tryz.prog .slice F.tags_eight #[.int .i64 k1] (fun (v17 : Sl) h =>
  stillK .slice h ((some a_9)) v10 ∧
  opK Tryz.prog .slice (convert T.sl_uint8 T.sl_uint8 (.slice v11.a v11.n v11.c)) (fun (v18 : Sl) h =>
  newSlK h 3 #[.slice v18.a v18.n v18.c, .slice v10.a v10.n v10.c, .slice v17.a v17.n v17.c] T.sl_uint8 (fun v19 h =>
  callK Tryz.prog .agg F.digest_Of #[.slice v19.a v19.n v19.c] (fun (v20 : Array Value) h =>
  storeAggK (sizeOfT Tryz.prog T.api_Tag) h v1 v20 (fun h =>
  quietK Tryz.prog .agg (Instr.loadAt T.api_Tag (.pointer v1)) (fun r21 =>
  R (.agg r21) h) h)) h)) h) h)))) ∧
  (callK Tryz.prog .slice F.tags_eight #[.int .i64 k1] (fun (v22 : Sl) h =>
  stillK .slice h ((some a_9)) v10 ∧
  newSlK h 4 #[.int .u8 100, .int .u8 114, .int .u8 97, .int .u8 119] T.uint8 (fun v23 h =>
  opK Tryz.prog .slice (convert T.sl_uint8 T.sl_uint8 (.slice v23.a v23.n v23.c)) (fun (v24 : Sl) h =>
  newSlK h 3 #[.slice v24.a v24.n v24.c, .slice v10.a v10.n v10.c, .slice v22.a v22.n v22.c] T.sl_uint8 (fun v25 h =>
  callK Tryz.prog .agg F.digest_Of #[.slice v25.a v25.n v25.c] (fun (v26 : Array Value) h =>
  storeAggK (sizeOfT Tryz.prog T.api_Tag) h v1 v26 (fun h =>
  quietK Tryz.prog .agg (Instr.loadAt T.api_Tag (.pointer v1)) (fun r27 =>
  R (.agg r27) h) h)) h)) h)) h)))))
  else
  derefK m0 (fun (a_28 : Addr) =>
  fldK ((some a_28)) 0 (fun (a_29 : Addr) =>
  loadAggK (sizeOfT Tryz.prog T.tags_book) h ((some a_29)) (fun (v30 : Array Value) =>
  buildK Tryz.prog (Instr.build T.tags_thing #[(0, (.int .u8 100)), (3, (.int .i64 k1))]) (fun (v31 : Array Value) =>
  callK Tryz.prog .agg F.tags_book_ask #[.agg v30, .agg v31] (fun (v32 : Array Value) h =>
  storeAggK (sizeOfT Tryz.prog T.api_Tag) h v1 v32 (fun h =>
  quietK Tryz.prog .agg (Instr.loadAt T.api_Tag (.pointer v1)) (fun r33 =>
  R (.agg r33) h) h)) h)))))))) h)
def tags_Maker_Draw.ann : Ann := (.seq .leaf (.seq (.block (.seq .leaf (.cond (.seq .leaf .leaf) (.seq .leaf (.cond (.seq (.any (.loc 2 (.loc 3 (.loc 4 (.loc 6 (.st 5 1792 (.alt 0 (.alt 1 (.last 7 (.last 8 (.last 9 (.last 10 .done)))) (.last 7 (.last 1 (.last 8 (.last 9 (.last 10 .done)))))) (.last 7 (.last 0 (.last 1 (.last 8 (.last 9 (.last 10 .done))))))))))))) .leaf) .leaf))))) (.seq .leaf .leaf)))
theorem tags_Maker_Draw.eq (m0 : Option Addr) (k1 : Int) (R : Value → Heap → Prop) (h : Heap) : tags_Maker_Draw.body m0 k1 R h = evFn Tryz.prog Tryz.f24 tags_Maker_Draw.ann [.pointer m0, .int .i64 k1] R h := by kernel_rfl
theorem tags_Maker_Draw.calls {m0 : Option Addr} {k1 : Int} {R : Value → Heap → Prop} {h : Heap} (H : tags_Maker_Draw.body m0 k1 R h) : HC Tryz.prog F.tags_Maker_Draw #[.pointer m0, .int .i64 k1] R h :=
  evFn_sound mixed Tryz.func24 (by kernel_rfl) (tags_Maker_Draw.eq m0 k1 R h ▸ H)

/-! (*zugzwang/seal.Envelope).State -/
def seal_Envelope_State.body (v0 : Option Addr) (R : Value → Heap → Prop) (h : Heap) : Prop :=
  callK Tryz.prog .bool F.seal_Envelope_made #[(.pointer v0)] (fun (v_1 : Bool) (h : Heap) =>
  if (!v_1) = true then
  R (.int .i64 0) h
  else
  derefK v0 (fun (a_2 : Addr) =>
  fldK ((some a_2)) 66 (fun (a_3 : Addr) =>
  loadK (.int .i64) h ((some a_3)) (fun (v_4 : Int) =>
  R (.int .i64 v_4) h)))) h
def seal_Envelope_State.ann : Ann := (.seq .leaf (.seq (.seq .leaf (.cond (.seq .leaf .leaf) .leaf)) (.seq .leaf .leaf)))
theorem seal_Envelope_State.eq (v0 : Option Addr) (R : Value → Heap → Prop) (h : Heap) : seal_Envelope_State.body v0 R h = evFn Tryz.prog Tryz.f25 seal_Envelope_State.ann [(.pointer v0)] R h := by kernel_rfl
theorem seal_Envelope_State.calls {v0 : Option Addr} {R : Value → Heap → Prop} {h : Heap} (H : seal_Envelope_State.body v0 R h) : HC Tryz.prog F.seal_Envelope_State #[(.pointer v0)] R h :=
  evFn_sound mixed Tryz.func25 (by kernel_rfl) (seal_Envelope_State.eq v0 R h ▸ H)

/-! (*zugzwang/seal.Envelope).Opened -/
def seal_Envelope_Opened.body (v0 : Option Addr) (R : Value → Heap → Prop) (h : Heap) : Prop :=
  newK h (zerosOf Tryz.prog T.api_Move) T.api_Move (fun (x_1 : Option Addr) (h : Heap) =>
  callK Tryz.prog .bool F.seal_Envelope_made #[(.pointer v0)] (fun (v_2 : Bool) (h : Heap) =>
  if (!v_2) = true then
  loadAggK (sizeOfT Tryz.prog T.api_Move) h x_1 (fun (v_3 : Array Value) =>
  storeAggK (sizeOfT Tryz.prog T.api_Move) h x_1 v_3 (fun (h : Heap) =>
  quietK Tryz.prog .agg (Instr.loadAt T.api_Move (.pointer x_1)) (fun (r_4 : Array Value) =>
  R (.tuple #[(.agg r_4), (.bool false)]) h) h))
  else
  derefK v0 (fun (a_5 : Addr) =>
  fldK ((some a_5)) 67 (fun (a_6 : Addr) =>
  derefK v0 (fun (a_7 : Addr) =>
  fldK ((some a_7)) 70 (fun (a_8 : Addr) =>
  loadAggK (sizeOfT Tryz.prog T.api_Move) h ((some a_6)) (fun (v_9 : Array Value) =>
  loadK .bool h ((some a_8)) (fun (v_10 : Bool) =>
  storeAggK (sizeOfT Tryz.prog T.api_Move) h x_1 v_9 (fun (h : Heap) =>
  stillK .bool h ((some a_8)) v_10 ∧
  quietK Tryz.prog .agg (Instr.loadAt T.api_Move (.pointer x_1)) (fun (r_11 : Array Value) =>
  R (.tuple #[(.agg r_11), (.bool v_10)]) h) h)))))))) h)
def seal_Envelope_Opened.ann : Ann := (.seq .leaf (.seq (.seq .leaf (.cond (.seq .leaf .leaf) .leaf)) (.seq (.any (.loc 0 (.loc 1 (.loc 2 (.loc 4 (.loc 5 (.loc 6 (.st 3 768 (.st 7 512 (.last 8 (.loc 9 .done))))))))))) .leaf)))
theorem seal_Envelope_Opened.eq (v0 : Option Addr) (R : Value → Heap → Prop) (h : Heap) : seal_Envelope_Opened.body v0 R h = evFn Tryz.prog Tryz.f26 seal_Envelope_Opened.ann [(.pointer v0)] R h := by kernel_rfl
theorem seal_Envelope_Opened.calls {v0 : Option Addr} {R : Value → Heap → Prop} {h : Heap} (H : seal_Envelope_Opened.body v0 R h) : HC Tryz.prog F.seal_Envelope_Opened #[(.pointer v0)] R h :=
  evFn_sound mixed Tryz.func26 (by kernel_rfl) (seal_Envelope_Opened.eq v0 R h ▸ H)

/-! zugzwang/zugzwanglaw24.awake -/
def law24_awake.body  (R : Value → Heap → Prop) (h : Heap) : Prop :=
  callK Tryz.prog .ptr F.tags_New #[.bool false, .slice none 0 0] (fun (v1 : Option Addr) h =>
  buildK Tryz.prog (Instr.build T.api_Move #[(0, (.int .i64 12)), (1, (.int .i64 28))]) (fun (v2 : Array Value) =>
  newK h (zerosOf Tryz.prog T.api_Move) T.api_Move (fun (x_3 : Option Addr) h =>
  storeAggK (sizeOfT Tryz.prog T.api_Move) h x_3 v2 (fun h =>
  joinW (fun (s_4 : Option Addr × Option Addr × Int) h =>
  buildK Tryz.prog (Instr.build T.api_Tag #[]) (fun (v5 : Array Value) =>
  callK Tryz.prog (Kd.pair .ptr (.int .i64)) F.seal_New #[.pointer v1, .agg v5] (fun (v6 : Option Addr × Int) h =>
  if (s_4.2.2 != 0) = true then
  R (.bool false) h
  else
  if (v6.2 != 0) = true then
  R (.bool false) h
  else
  loadAggK (sizeOfT Tryz.prog T.api_Body) h s_4.1 (fun (v7 : Array Value) =>
  buildK Tryz.prog (Instr.build T.api_Entry #[(3, (.agg v7))]) (fun (v8 : Array Value) =>
  opK Tryz.prog .slice (Instr.buildSlice T.sl_api_Entry 1 #[(0, (.agg v8))]) (fun (v9 : Sl) h =>
  callK Tryz.prog (.int .i64) F.seal_Envelope_Take #[.pointer v6.1, .slice v9.a v9.n v9.c] (fun (v10 : Int) h =>
  if (v10 != 0) = true then
  R (.bool false) h
  else
  callK Tryz.prog (.int .i64) F.seal_Envelope_State #[.pointer v6.1] (fun (v11 : Int) h =>
  if (v11 != 2) = true then
  R (.bool false) h
  else
  buildK Tryz.prog (Instr.build T.api_Body #[(0, (.int .i64 6))]) (fun (v12 : Array Value) =>
  buildK Tryz.prog (Instr.build T.api_Entry #[(1, (.int .i64 1)), (3, (.agg v12))]) (fun (v13 : Array Value) =>
  opK Tryz.prog .slice (Instr.buildSlice T.sl_api_Entry 1 #[(0, (.agg v13))]) (fun (v14 : Sl) h =>
  callK Tryz.prog (.int .i64) F.seal_Envelope_Take #[.pointer v6.1, .slice v14.a v14.n v14.c] (fun (v15 : Int) h =>
  if (v15 != 0) = true then
  R (.bool false) h
  else
  loadAggK (sizeOfT Tryz.prog T.api_Body) h s_4.2.1 (fun (v16 : Array Value) =>
  buildK Tryz.prog (Instr.build T.api_Entry #[(1, (.int .i64 2)), (3, (.agg v16))]) (fun (v17 : Array Value) =>
  opK Tryz.prog .slice (Instr.buildSlice T.sl_api_Entry 1 #[(0, (.agg v17))]) (fun (v18 : Sl) h =>
  callK Tryz.prog (.int .i64) F.seal_Envelope_Take #[.pointer v6.1, .slice v18.a v18.n v18.c] (fun (v19 : Int) h =>
  if (v19 != 0) = true then
  R (.bool false) h
  else
  callK Tryz.prog (Kd.pair .agg .bool) F.seal_Envelope_Opened #[.pointer v6.1] (fun (v20 : Array Value × Bool) h =>
  newK h (zerosOf Tryz.prog T.api_Move) T.api_Move (fun (y_21 : Option Addr) h =>
  storeAggK (sizeOfT Tryz.prog T.api_Move) h y_21 v20.1 (fun h =>
  if v20.2 = true then
  loadAggK (sizeOfT Tryz.prog T.api_Move) h y_21 (fun (v22 : Array Value) =>
  loadAggK (sizeOfT Tryz.prog T.api_Move) h x_3 (fun (v23 : Array Value) =>
  eqK Tryz.prog (binSem .eql T.api_Move (.tmp 70) (.tmp 71) (.agg v22) (.agg v23)) (fun (v24 : Bool) =>
  if v24 = true then
  callK Tryz.prog (.int .i64) F.seal_Envelope_State #[.pointer v6.1] (fun (v25 : Int) h =>
  R (.bool (v25 == 1)) h) h
  else
  R (.bool false) h)))
  else
  R (.bool false) h))) h) h) h))) h) h))) h) h) h))) h))
  (fun J_26 =>
  buildK Tryz.prog (Instr.build T.api_Tag #[]) (fun (v27 : Array Value) =>
  loadAggK (sizeOfT Tryz.prog T.api_Move) h x_3 (fun (v28 : Array Value) =>
  ((callK Tryz.prog .agg F.tags_Maker_Draw #[.pointer v1, .int .i64 0] (fun (v29 : Array Value) h =>
  stillAggK (sizeOfT Tryz.prog T.api_Move) h x_3 v28 ∧
  ((callK Tryz.prog (Kd.trip .agg .agg (.int .i64)) F.seal_Make #[.pointer v1, .agg v27, .int .i64 0, .agg v28, .agg v29] (fun (v30 : Array Value × Array Value × Int) h =>
  ((newK h (zerosOf Tryz.prog T.api_Body) T.api_Body (fun (a_31 : Option Addr) h =>
  newK h (zerosOf Tryz.prog T.api_Body) T.api_Body (fun (b_32 : Option Addr) h =>
  storeAggK (sizeOfT Tryz.prog T.api_Body) h a_31 v30.1 (fun h =>
  storeAggK (sizeOfT Tryz.prog T.api_Body) h b_32 v30.2.1 (fun h =>
  J_26 (a_31, b_32, v30.2.2) h))))) ∧
  (newK h (zerosOf Tryz.prog T.api_Body) T.api_Body (fun (b_33 : Option Addr) h =>
  newK h (zerosOf Tryz.prog T.api_Body) T.api_Body (fun (a_34 : Option Addr) h =>
  storeAggK (sizeOfT Tryz.prog T.api_Body) h a_34 v30.1 (fun h =>
  storeAggK (sizeOfT Tryz.prog T.api_Body) h b_33 v30.2.1 (fun h =>
  J_26 (a_34, b_33, v30.2.2) h))))))) h) ∧
  (((newK h (zerosOf Tryz.prog T.api_Body) T.api_Body (fun (a_35 : Option Addr) h =>
  ((callK Tryz.prog (Kd.trip .agg .agg (.int .i64)) F.seal_Make #[.pointer v1, .agg v27, .int .i64 0, .agg v28, .agg v29] (fun (v36 : Array Value × Array Value × Int) h =>
  newK h (zerosOf Tryz.prog T.api_Body) T.api_Body (fun (b_37 : Option Addr) h =>
  storeAggK (sizeOfT Tryz.prog T.api_Body) h a_35 v36.1 (fun h =>
  storeAggK (sizeOfT Tryz.prog T.api_Body) h b_37 v36.2.1 (fun h =>
  J_26 (a_35, b_37, v36.2.2) h)))) h) ∧
  (newK h (zerosOf Tryz.prog T.api_Body) T.api_Body (fun (b_38 : Option Addr) h =>
  callK Tryz.prog (Kd.trip .agg .agg (.int .i64)) F.seal_Make #[.pointer v1, .agg v27, .int .i64 0, .agg v28, .agg v29] (fun (v39 : Array Value × Array Value × Int) h =>
  storeAggK (sizeOfT Tryz.prog T.api_Body) h a_35 v39.1 (fun h =>
  storeAggK (sizeOfT Tryz.prog T.api_Body) h b_38 v39.2.1 (fun h =>
  J_26 (a_35, b_38, v39.2.2) h))) h))))) ∧
  (newK h (zerosOf Tryz.prog T.api_Body) T.api_Body (fun (b_40 : Option Addr) h =>
  ((callK Tryz.prog (Kd.trip .agg .agg (.int .i64)) F.seal_Make #[.pointer v1, .agg v27, .int .i64 0, .agg v28, .agg v29] (fun (v41 : Array Value × Array Value × Int) h =>
  newK h (zerosOf Tryz.prog T.api_Body) T.api_Body (fun (a_42 : Option Addr) h =>
  storeAggK (sizeOfT Tryz.prog T.api_Body) h a_42 v41.1 (fun h =>
  storeAggK (sizeOfT Tryz.prog T.api_Body) h b_40 v41.2.1 (fun h =>
  J_26 (a_42, b_40, v41.2.2) h)))) h) ∧
  (newK h (zerosOf Tryz.prog T.api_Body) T.api_Body (fun (a_43 : Option Addr) h =>
  callK Tryz.prog (Kd.trip .agg .agg (.int .i64)) F.seal_Make #[.pointer v1, .agg v27, .int .i64 0, .agg v28, .agg v29] (fun (v44 : Array Value × Array Value × Int) h =>
  storeAggK (sizeOfT Tryz.prog T.api_Body) h a_43 v44.1 (fun h =>
  storeAggK (sizeOfT Tryz.prog T.api_Body) h b_40 v44.2.1 (fun h =>
  J_26 (a_43, b_40, v44.2.2) h))) h))))))))) h) ∧
  (((newK h (zerosOf Tryz.prog T.api_Body) T.api_Body (fun (a_45 : Option Addr) h =>
  ((callK Tryz.prog .agg F.tags_Maker_Draw #[.pointer v1, .int .i64 0] (fun (v46 : Array Value) h =>
  stillAggK (sizeOfT Tryz.prog T.api_Move) h x_3 v28 ∧
  ((callK Tryz.prog (Kd.trip .agg .agg (.int .i64)) F.seal_Make #[.pointer v1, .agg v27, .int .i64 0, .agg v28, .agg v46] (fun (v47 : Array Value × Array Value × Int) h =>
  newK h (zerosOf Tryz.prog T.api_Body) T.api_Body (fun (b_48 : Option Addr) h =>
  storeAggK (sizeOfT Tryz.prog T.api_Body) h a_45 v47.1 (fun h =>
  storeAggK (sizeOfT Tryz.prog T.api_Body) h b_48 v47.2.1 (fun h =>
  J_26 (a_45, b_48, v47.2.2) h)))) h) ∧
  (newK h (zerosOf Tryz.prog T.api_Body) T.api_Body (fun (b_49 : Option Addr) h =>
  callK Tryz.prog (Kd.trip .agg .agg (.int .i64)) F.seal_Make #[.pointer v1, .agg v27, .int .i64 0, .agg v28, .agg v46] (fun (v50 : Array Value × Array Value × Int) h =>
  storeAggK (sizeOfT Tryz.prog T.api_Body) h a_45 v50.1 (fun h =>
  storeAggK (sizeOfT Tryz.prog T.api_Body) h b_49 v50.2.1 (fun h =>
  J_26 (a_45, b_49, v50.2.2) h))) h)))) h) ∧
  (newK h (zerosOf Tryz.prog T.api_Body) T.api_Body (fun (b_51 : Option Addr) h =>
  callK Tryz.prog .agg F.tags_Maker_Draw #[.pointer v1, .int .i64 0] (fun (v52 : Array Value) h =>
  stillAggK (sizeOfT Tryz.prog T.api_Move) h x_3 v28 ∧
  callK Tryz.prog (Kd.trip .agg .agg (.int .i64)) F.seal_Make #[.pointer v1, .agg v27, .int .i64 0, .agg v28, .agg v52] (fun (v53 : Array Value × Array Value × Int) h =>
  storeAggK (sizeOfT Tryz.prog T.api_Body) h a_45 v53.1 (fun h =>
  storeAggK (sizeOfT Tryz.prog T.api_Body) h b_51 v53.2.1 (fun h =>
  J_26 (a_45, b_51, v53.2.2) h))) h) h))))) ∧
  (newK h (zerosOf Tryz.prog T.api_Body) T.api_Body (fun (b_54 : Option Addr) h =>
  ((callK Tryz.prog .agg F.tags_Maker_Draw #[.pointer v1, .int .i64 0] (fun (v55 : Array Value) h =>
  stillAggK (sizeOfT Tryz.prog T.api_Move) h x_3 v28 ∧
  ((callK Tryz.prog (Kd.trip .agg .agg (.int .i64)) F.seal_Make #[.pointer v1, .agg v27, .int .i64 0, .agg v28, .agg v55] (fun (v56 : Array Value × Array Value × Int) h =>
  newK h (zerosOf Tryz.prog T.api_Body) T.api_Body (fun (a_57 : Option Addr) h =>
  storeAggK (sizeOfT Tryz.prog T.api_Body) h a_57 v56.1 (fun h =>
  storeAggK (sizeOfT Tryz.prog T.api_Body) h b_54 v56.2.1 (fun h =>
  J_26 (a_57, b_54, v56.2.2) h)))) h) ∧
  (newK h (zerosOf Tryz.prog T.api_Body) T.api_Body (fun (a_58 : Option Addr) h =>
  callK Tryz.prog (Kd.trip .agg .agg (.int .i64)) F.seal_Make #[.pointer v1, .agg v27, .int .i64 0, .agg v28, .agg v55] (fun (v59 : Array Value × Array Value × Int) h =>
  storeAggK (sizeOfT Tryz.prog T.api_Body) h a_58 v59.1 (fun h =>
  storeAggK (sizeOfT Tryz.prog T.api_Body) h b_54 v59.2.1 (fun h =>
  J_26 (a_58, b_54, v59.2.2) h))) h)))) h) ∧
  (newK h (zerosOf Tryz.prog T.api_Body) T.api_Body (fun (a_60 : Option Addr) h =>
  callK Tryz.prog .agg F.tags_Maker_Draw #[.pointer v1, .int .i64 0] (fun (v61 : Array Value) h =>
  stillAggK (sizeOfT Tryz.prog T.api_Move) h x_3 v28 ∧
  callK Tryz.prog (Kd.trip .agg .agg (.int .i64)) F.seal_Make #[.pointer v1, .agg v27, .int .i64 0, .agg v28, .agg v61] (fun (v62 : Array Value × Array Value × Int) h =>
  storeAggK (sizeOfT Tryz.prog T.api_Body) h a_60 v62.1 (fun h =>
  storeAggK (sizeOfT Tryz.prog T.api_Body) h b_54 v62.2.1 (fun h =>
  J_26 (a_60, b_54, v62.2.2) h))) h) h))))))))))))))) h
def law24_awake.ann : Ann := (.seq .leaf (.seq .leaf (.seq .leaf (.join [(3, .ptr), (4, .ptr), (5, (.int .i64))] (.any (.loc 0 (.loc 1 (.loc 3 (.st 2 29664 (.alt 4 (.alt 5 (.loc 6 (.loc 7 (.loc 8 (.loc 9 (.alt 10 (.last 11 (.last 12 (.last 13 (.loc 14 .done)))) (.last 11 (.last 10 (.last 12 (.last 13 (.loc 14 .done)))))))))) (.alt 10 (.alt 5 (.loc 6 (.loc 7 (.loc 8 (.loc 9 (.last 11 (.last 12 (.last 13 (.loc 14 .done)))))))) (.last 11 (.last 5 (.loc 6 (.loc 7 (.loc 8 (.loc 9 (.last 12 (.last 13 (.loc 14 .done)))))))))) (.last 11 (.alt 5 (.loc 6 (.loc 7 (.loc 8 (.loc 9 (.last 10 (.last 12 (.last 13 (.loc 14 .done)))))))) (.last 10 (.last 5 (.loc 6 (.loc 7 (.loc 8 (.loc 9 (.last 12 (.last 13 (.loc 14 .done))))))))))))) (.alt 10 (.alt 4 (.alt 5 (.loc 6 (.loc 7 (.loc 8 (.loc 9 (.last 11 (.last 12 (.last 13 (.loc 14 .done)))))))) (.last 11 (.last 5 (.loc 6 (.loc 7 (.loc 8 (.loc 9 (.last 12 (.last 13 (.loc 14 .done)))))))))) (.last 11 (.last 4 (.last 5 (.loc 6 (.loc 7 (.loc 8 (.loc 9 (.last 12 (.last 13 (.loc 14 .done))))))))))) (.last 11 (.alt 4 (.alt 5 (.loc 6 (.loc 7 (.loc 8 (.loc 9 (.last 10 (.last 12 (.last 13 (.loc 14 .done)))))))) (.last 10 (.last 5 (.loc 6 (.loc 7 (.loc 8 (.loc 9 (.last 12 (.last 13 (.loc 14 .done)))))))))) (.last 10 (.last 4 (.last 5 (.loc 6 (.loc 7 (.loc 8 (.loc 9 (.last 12 (.last 13 (.loc 14 .done))))))))))))))))))) (.seq .leaf (.seq (.seq .leaf (.cond (.seq .leaf .leaf) .leaf)) (.seq .leaf (.seq .leaf .leaf))))))))
theorem law24_awake.eq  (R : Value → Heap → Prop) (h : Heap) : law24_awake.body  R h = evFn Tryz.prog Tryz.f8 law24_awake.ann [] R h := by kernel_rfl
theorem law24_awake.calls  {R : Value → Heap → Prop} {h : Heap} (H : law24_awake.body  R h) : HC Tryz.prog F.law24_awake #[] R h :=
  evFn_sound mixed Tryz.func8 (by kernel_rfl) (law24_awake.eq  R h ▸ H)

/-! zugzwang/zugzwanglaw24.SealMakes -/
def law24_SealMakes.body (game0 : Array Value) (number1 : Int) (x2 : Array Value) (nonce3 : Array Value) (R : Value → Heap → Prop) (h : Heap) : Prop :=
  newK h game0 T.api_Tag (fun (game_1 : Option Addr) h =>
  newK h x2 T.api_Move (fun (x_2 : Option Addr) h =>
  newK h nonce3 T.api_Tag (fun (nonce_3 : Option Addr) h =>
  joinW (fun (s_4 : Option Addr × Option Addr × Int) h =>
  buildK Tryz.prog (Instr.build T.zugzwangref04_Maker #[(0, (.bool true))]) (fun (v5 : Array Value) =>
  newK h v5 T.zugzwangref04_Maker (fun (v6 : Option Addr) h =>
  loadAggK (sizeOfT Tryz.prog T.api_Tag) h game_1 (fun (v7 : Array Value) =>
  loadAggK (sizeOfT Tryz.prog T.api_Move) h x_2 (fun (v8 : Array Value) =>
  loadAggK (sizeOfT Tryz.prog T.api_Tag) h nonce_3 (fun (v9 : Array Value) =>
  callK Tryz.prog (Kd.trip .agg .agg (.int .i64)) F.ref24_Make #[.pointer v6, .agg v7, .int .i64 number1, .agg v8, .agg v9] (fun (v10 : Array Value × Array Value × Int) h =>
  newK h (zerosOf Tryz.prog T.api_Body) T.api_Body (fun (c_11 : Option Addr) h =>
  newK h (zerosOf Tryz.prog T.api_Body) T.api_Body (fun (d_12 : Option Addr) h =>
  storeAggK (sizeOfT Tryz.prog T.api_Body) h c_11 v10.1 (fun h =>
  storeAggK (sizeOfT Tryz.prog T.api_Body) h d_12 v10.2.1 (fun h =>
  loadAggK (sizeOfT Tryz.prog T.api_Body) h s_4.1 (fun (v13 : Array Value) =>
  loadAggK (sizeOfT Tryz.prog T.api_Body) h c_11 (fun (v14 : Array Value) =>
  eqK Tryz.prog (binSem .eql T.api_Body (.tmp 36) (.tmp 37) (.agg v13) (.agg v14)) (fun (v15 : Bool) =>
  if v15 = true then
  loadAggK (sizeOfT Tryz.prog T.api_Body) h s_4.2.1 (fun (v16 : Array Value) =>
  loadAggK (sizeOfT Tryz.prog T.api_Body) h d_12 (fun (v17 : Array Value) =>
  eqK Tryz.prog (binSem .eql T.api_Body (.tmp 40) (.tmp 41) (.agg v16) (.agg v17)) (fun (v18 : Bool) =>
  if v18 = true then
  if (s_4.2.2 == v10.2.2) = true then
  callK Tryz.prog .bool F.law24_awake #[] (fun (v19 : Bool) h =>
  R (.bool v19) h) h
  else
  R (.bool false) h
  else
  R (.bool false) h)))
  else
  R (.bool false) h)))))))) h))))))
  (fun J_20 =>
  loadAggK (sizeOfT Tryz.prog T.api_Tag) h game_1 (fun (v21 : Array Value) =>
  loadAggK (sizeOfT Tryz.prog T.api_Move) h x_2 (fun (v22 : Array Value) =>
  loadAggK (sizeOfT Tryz.prog T.api_Tag) h nonce_3 (fun (v23 : Array Value) =>
  ((callK Tryz.prog .ptr F.tags_New #[.bool true, .slice none 0 0] (fun (v24 : Option Addr) h =>
  stillAggK (sizeOfT Tryz.prog T.api_Tag) h nonce_3 v23 ∧
  stillAggK (sizeOfT Tryz.prog T.api_Move) h x_2 v22 ∧
  stillAggK (sizeOfT Tryz.prog T.api_Tag) h game_1 v21 ∧
  ((callK Tryz.prog (Kd.trip .agg .agg (.int .i64)) F.seal_Make #[.pointer v24, .agg v21, .int .i64 number1, .agg v22, .agg v23] (fun (v25 : Array Value × Array Value × Int) h =>
  ((newK h (zerosOf Tryz.prog T.api_Body) T.api_Body (fun (a_26 : Option Addr) h =>
  newK h (zerosOf Tryz.prog T.api_Body) T.api_Body (fun (b_27 : Option Addr) h =>
  storeAggK (sizeOfT Tryz.prog T.api_Body) h a_26 v25.1 (fun h =>
  storeAggK (sizeOfT Tryz.prog T.api_Body) h b_27 v25.2.1 (fun h =>
  J_20 (a_26, b_27, v25.2.2) h))))) ∧
  (newK h (zerosOf Tryz.prog T.api_Body) T.api_Body (fun (b_28 : Option Addr) h =>
  newK h (zerosOf Tryz.prog T.api_Body) T.api_Body (fun (a_29 : Option Addr) h =>
  storeAggK (sizeOfT Tryz.prog T.api_Body) h a_29 v25.1 (fun h =>
  storeAggK (sizeOfT Tryz.prog T.api_Body) h b_28 v25.2.1 (fun h =>
  J_20 (a_29, b_28, v25.2.2) h))))))) h) ∧
  (((newK h (zerosOf Tryz.prog T.api_Body) T.api_Body (fun (a_30 : Option Addr) h =>
  ((callK Tryz.prog (Kd.trip .agg .agg (.int .i64)) F.seal_Make #[.pointer v24, .agg v21, .int .i64 number1, .agg v22, .agg v23] (fun (v31 : Array Value × Array Value × Int) h =>
  newK h (zerosOf Tryz.prog T.api_Body) T.api_Body (fun (b_32 : Option Addr) h =>
  storeAggK (sizeOfT Tryz.prog T.api_Body) h a_30 v31.1 (fun h =>
  storeAggK (sizeOfT Tryz.prog T.api_Body) h b_32 v31.2.1 (fun h =>
  J_20 (a_30, b_32, v31.2.2) h)))) h) ∧
  (newK h (zerosOf Tryz.prog T.api_Body) T.api_Body (fun (b_33 : Option Addr) h =>
  callK Tryz.prog (Kd.trip .agg .agg (.int .i64)) F.seal_Make #[.pointer v24, .agg v21, .int .i64 number1, .agg v22, .agg v23] (fun (v34 : Array Value × Array Value × Int) h =>
  storeAggK (sizeOfT Tryz.prog T.api_Body) h a_30 v34.1 (fun h =>
  storeAggK (sizeOfT Tryz.prog T.api_Body) h b_33 v34.2.1 (fun h =>
  J_20 (a_30, b_33, v34.2.2) h))) h))))) ∧
  (newK h (zerosOf Tryz.prog T.api_Body) T.api_Body (fun (b_35 : Option Addr) h =>
  ((callK Tryz.prog (Kd.trip .agg .agg (.int .i64)) F.seal_Make #[.pointer v24, .agg v21, .int .i64 number1, .agg v22, .agg v23] (fun (v36 : Array Value × Array Value × Int) h =>
  newK h (zerosOf Tryz.prog T.api_Body) T.api_Body (fun (a_37 : Option Addr) h =>
  storeAggK (sizeOfT Tryz.prog T.api_Body) h a_37 v36.1 (fun h =>
  storeAggK (sizeOfT Tryz.prog T.api_Body) h b_35 v36.2.1 (fun h =>
  J_20 (a_37, b_35, v36.2.2) h)))) h) ∧
  (newK h (zerosOf Tryz.prog T.api_Body) T.api_Body (fun (a_38 : Option Addr) h =>
  callK Tryz.prog (Kd.trip .agg .agg (.int .i64)) F.seal_Make #[.pointer v24, .agg v21, .int .i64 number1, .agg v22, .agg v23] (fun (v39 : Array Value × Array Value × Int) h =>
  storeAggK (sizeOfT Tryz.prog T.api_Body) h a_38 v39.1 (fun h =>
  storeAggK (sizeOfT Tryz.prog T.api_Body) h b_35 v39.2.1 (fun h =>
  J_20 (a_38, b_35, v39.2.2) h))) h))))))))) h) ∧
  (((newK h (zerosOf Tryz.prog T.api_Body) T.api_Body (fun (a_40 : Option Addr) h =>
  ((callK Tryz.prog .ptr F.tags_New #[.bool true, .slice none 0 0] (fun (v41 : Option Addr) h =>
  stillAggK (sizeOfT Tryz.prog T.api_Tag) h nonce_3 v23 ∧
  stillAggK (sizeOfT Tryz.prog T.api_Move) h x_2 v22 ∧
  stillAggK (sizeOfT Tryz.prog T.api_Tag) h game_1 v21 ∧
  ((callK Tryz.prog (Kd.trip .agg .agg (.int .i64)) F.seal_Make #[.pointer v41, .agg v21, .int .i64 number1, .agg v22, .agg v23] (fun (v42 : Array Value × Array Value × Int) h =>
  newK h (zerosOf Tryz.prog T.api_Body) T.api_Body (fun (b_43 : Option Addr) h =>
  storeAggK (sizeOfT Tryz.prog T.api_Body) h a_40 v42.1 (fun h =>
  storeAggK (sizeOfT Tryz.prog T.api_Body) h b_43 v42.2.1 (fun h =>
  J_20 (a_40, b_43, v42.2.2) h)))) h) ∧
  (newK h (zerosOf Tryz.prog T.api_Body) T.api_Body (fun (b_44 : Option Addr) h =>
  callK Tryz.prog (Kd.trip .agg .agg (.int .i64)) F.seal_Make #[.pointer v41, .agg v21, .int .i64 number1, .agg v22, .agg v23] (fun (v45 : Array Value × Array Value × Int) h =>
  storeAggK (sizeOfT Tryz.prog T.api_Body) h a_40 v45.1 (fun h =>
  storeAggK (sizeOfT Tryz.prog T.api_Body) h b_44 v45.2.1 (fun h =>
  J_20 (a_40, b_44, v45.2.2) h))) h)))) h) ∧
  (newK h (zerosOf Tryz.prog T.api_Body) T.api_Body (fun (b_46 : Option Addr) h =>
  callK Tryz.prog .ptr F.tags_New #[.bool true, .slice none 0 0] (fun (v47 : Option Addr) h =>
  stillAggK (sizeOfT Tryz.prog T.api_Tag) h nonce_3 v23 ∧
  stillAggK (sizeOfT Tryz.prog T.api_Move) h x_2 v22 ∧
  stillAggK (sizeOfT Tryz.prog T.api_Tag) h game_1 v21 ∧
  callK Tryz.prog (Kd.trip .agg .agg (.int .i64)) F.seal_Make #[.pointer v47, .agg v21, .int .i64 number1, .agg v22, .agg v23] (fun (v48 : Array Value × Array Value × Int) h =>
  storeAggK (sizeOfT Tryz.prog T.api_Body) h a_40 v48.1 (fun h =>
  storeAggK (sizeOfT Tryz.prog T.api_Body) h b_46 v48.2.1 (fun h =>
  J_20 (a_40, b_46, v48.2.2) h))) h) h))))) ∧
  (newK h (zerosOf Tryz.prog T.api_Body) T.api_Body (fun (b_49 : Option Addr) h =>
  ((callK Tryz.prog .ptr F.tags_New #[.bool true, .slice none 0 0] (fun (v50 : Option Addr) h =>
  stillAggK (sizeOfT Tryz.prog T.api_Tag) h nonce_3 v23 ∧
  stillAggK (sizeOfT Tryz.prog T.api_Move) h x_2 v22 ∧
  stillAggK (sizeOfT Tryz.prog T.api_Tag) h game_1 v21 ∧
  ((callK Tryz.prog (Kd.trip .agg .agg (.int .i64)) F.seal_Make #[.pointer v50, .agg v21, .int .i64 number1, .agg v22, .agg v23] (fun (v51 : Array Value × Array Value × Int) h =>
  newK h (zerosOf Tryz.prog T.api_Body) T.api_Body (fun (a_52 : Option Addr) h =>
  storeAggK (sizeOfT Tryz.prog T.api_Body) h a_52 v51.1 (fun h =>
  storeAggK (sizeOfT Tryz.prog T.api_Body) h b_49 v51.2.1 (fun h =>
  J_20 (a_52, b_49, v51.2.2) h)))) h) ∧
  (newK h (zerosOf Tryz.prog T.api_Body) T.api_Body (fun (a_53 : Option Addr) h =>
  callK Tryz.prog (Kd.trip .agg .agg (.int .i64)) F.seal_Make #[.pointer v50, .agg v21, .int .i64 number1, .agg v22, .agg v23] (fun (v54 : Array Value × Array Value × Int) h =>
  storeAggK (sizeOfT Tryz.prog T.api_Body) h a_53 v54.1 (fun h =>
  storeAggK (sizeOfT Tryz.prog T.api_Body) h b_49 v54.2.1 (fun h =>
  J_20 (a_53, b_49, v54.2.2) h))) h)))) h) ∧
  (newK h (zerosOf Tryz.prog T.api_Body) T.api_Body (fun (a_55 : Option Addr) h =>
  callK Tryz.prog .ptr F.tags_New #[.bool true, .slice none 0 0] (fun (v56 : Option Addr) h =>
  stillAggK (sizeOfT Tryz.prog T.api_Tag) h nonce_3 v23 ∧
  stillAggK (sizeOfT Tryz.prog T.api_Move) h x_2 v22 ∧
  stillAggK (sizeOfT Tryz.prog T.api_Tag) h game_1 v21 ∧
  callK Tryz.prog (Kd.trip .agg .agg (.int .i64)) F.seal_Make #[.pointer v56, .agg v21, .int .i64 number1, .agg v22, .agg v23] (fun (v57 : Array Value × Array Value × Int) h =>
  storeAggK (sizeOfT Tryz.prog T.api_Body) h a_55 v57.1 (fun h =>
  storeAggK (sizeOfT Tryz.prog T.api_Body) h b_49 v57.2.1 (fun h =>
  J_20 (a_55, b_49, v57.2.2) h))) h) h)))))))))))))))
def law24_SealMakes.ann : Ann := (.seq .leaf (.join [(9, .ptr), (10, .ptr), (11, (.int .i64))] (.any (.loc 2 (.st 1 29664 (.st 3 29664 (.st 4 29664 (.alt 0 (.alt 5 (.loc 6 (.loc 7 (.loc 8 (.loc 9 (.alt 10 (.last 11 (.last 12 (.last 13 (.loc 14 .done)))) (.last 11 (.last 10 (.last 12 (.last 13 (.loc 14 .done)))))))))) (.alt 10 (.alt 5 (.loc 6 (.loc 7 (.loc 8 (.loc 9 (.last 11 (.last 12 (.last 13 (.loc 14 .done)))))))) (.last 11 (.last 5 (.loc 6 (.loc 7 (.loc 8 (.loc 9 (.last 12 (.last 13 (.loc 14 .done)))))))))) (.last 11 (.alt 5 (.loc 6 (.loc 7 (.loc 8 (.loc 9 (.last 10 (.last 12 (.last 13 (.loc 14 .done)))))))) (.last 10 (.last 5 (.loc 6 (.loc 7 (.loc 8 (.loc 9 (.last 12 (.last 13 (.loc 14 .done))))))))))))) (.alt 10 (.alt 0 (.alt 5 (.loc 6 (.loc 7 (.loc 8 (.loc 9 (.last 11 (.last 12 (.last 13 (.loc 14 .done)))))))) (.last 11 (.last 5 (.loc 6 (.loc 7 (.loc 8 (.loc 9 (.last 12 (.last 13 (.loc 14 .done)))))))))) (.last 11 (.last 0 (.last 5 (.loc 6 (.loc 7 (.loc 8 (.loc 9 (.last 12 (.last 13 (.loc 14 .done))))))))))) (.last 11 (.alt 0 (.alt 5 (.loc 6 (.loc 7 (.loc 8 (.loc 9 (.last 10 (.last 12 (.last 13 (.loc 14 .done)))))))) (.last 10 (.last 5 (.loc 6 (.loc 7 (.loc 8 (.loc 9 (.last 12 (.last 13 (.loc 14 .done)))))))))) (.last 10 (.last 0 (.last 5 (.loc 6 (.loc 7 (.loc 8 (.loc 9 (.last 12 (.last 13 (.loc 14 .done))))))))))))))))))) (.seq .leaf (.seq .leaf .leaf))))
theorem law24_SealMakes.eq (game0 : Array Value) (number1 : Int) (x2 : Array Value) (nonce3 : Array Value) (R : Value → Heap → Prop) (h : Heap) : law24_SealMakes.body game0 number1 x2 nonce3 R h = evFn Tryz.prog Tryz.f3 law24_SealMakes.ann [.agg game0, .int .i64 number1, .agg x2, .agg nonce3] R h := by kernel_rfl
theorem law24_SealMakes.calls {game0 : Array Value} {number1 : Int} {x2 : Array Value} {nonce3 : Array Value} {R : Value → Heap → Prop} {h : Heap} (H : law24_SealMakes.body game0 number1 x2 nonce3 R h) : HC Tryz.prog F.law24_SealMakes #[.agg game0, .int .i64 number1, .agg x2, .agg nonce3] R h :=
  evFn_sound mixed Tryz.func3 (by kernel_rfl) (law24_SealMakes.eq game0 number1 x2 nonce3 R h ▸ H)

/-! zugzwang/zugzwangref24.New -/
def ref24_New.body (m0 : Option Addr) (game1 : Array Value) (R : Value → Heap → Prop) (h : Heap) : Prop :=
  newK h game1 T.api_Tag (fun (game_1 : Option Addr) (h : Heap) =>
  loadAggK (sizeOfT Tryz.prog T.api_Tag) h game_1 (fun (v_2 : Array Value) =>
  buildK Tryz.prog (Instr.build T.zugzwangref24_Envelope #[(0, (.pointer m0)), (1, (.agg v_2)), (2, (.int .i64 1))]) (fun (v_3 : Array Value) =>
  newK h v_3 T.zugzwangref24_Envelope (fun (v_4 : Option Addr) (h : Heap) =>
  R (.pointer v_4) h))))
def ref24_New.ann : Ann := (.seq .leaf (.seq .leaf .leaf))
theorem ref24_New.eq (m0 : Option Addr) (game1 : Array Value) (R : Value → Heap → Prop) (h : Heap) : ref24_New.body m0 game1 R h = evFn Tryz.prog Tryz.f10 ref24_New.ann [(.pointer m0), (.agg game1)] R h := by kernel_rfl
theorem ref24_New.calls {m0 : Option Addr} {game1 : Array Value} {R : Value → Heap → Prop} {h : Heap} (H : ref24_New.body m0 game1 R h) : HC Tryz.prog F.ref24_New #[(.pointer m0), (.agg game1)] R h :=
  evFn_sound mixed Tryz.func10 (by kernel_rfl) (ref24_New.eq m0 game1 R h ▸ H)

/-! zugzwang/zugzwangkit.Pick -/
def kit_Pick.body (x0 : Int) (n1 : Int) (R : Value → Heap → Prop) (h : Heap) : Prop :=
  if (decide (n1 < 1)) = true then
  R (.int .i64 0) h
  else
  divK n1
  (if (decide ((Int.tmod x0 n1) < 0)) = true then
  R (.int .i64 (IntKind.i64.wrap ((Int.tmod x0 n1) + n1))) h
  else
  R (.int .i64 (Int.tmod x0 n1)) h)
def kit_Pick.ann : Ann := (.seq .leaf (.seq (.seq .leaf (.cond (.seq .leaf .leaf) .leaf)) (.seq .leaf (.seq (.seq .leaf (.cond .leaf .leaf)) (.seq .leaf .leaf)))))
theorem kit_Pick.eq (x0 : Int) (n1 : Int) (R : Value → Heap → Prop) (h : Heap) : kit_Pick.body x0 n1 R h = evFn Tryz.prog Tryz.f11 kit_Pick.ann [(.int .i64 x0), (.int .i64 n1)] R h := by kernel_rfl
theorem kit_Pick.calls {x0 : Int} {n1 : Int} {R : Value → Heap → Prop} {h : Heap} (H : kit_Pick.body x0 n1 R h) : HC Tryz.prog F.kit_Pick #[(.int .i64 x0), (.int .i64 n1)] R h :=
  evFn_sound mixed Tryz.func11 (by kernel_rfl) (kit_Pick.eq x0 n1 R h ▸ H)

/-! (*zugzwang/seal.Envelope).Copy -/
def seal_Envelope_Copy.body (v0 : Option Addr) (R : Value → Heap → Prop) (h : Heap) : Prop :=
  callK Tryz.prog .bool F.seal_Envelope_made #[(.pointer v0)] (fun (v_1 : Bool) (h : Heap) =>
  if (!v_1) = true then
  R (.pointer none) h
  else
  derefK v0 (fun (a_2 : Addr) =>
  loadAggK (sizeOfT Tryz.prog T.seal_Envelope) h ((some a_2)) (fun (v_3 : Array Value) =>
  newK h (zerosOf Tryz.prog T.seal_Envelope) T.seal_Envelope (fun (o_4 : Option Addr) (h : Heap) =>
  storeAggK (sizeOfT Tryz.prog T.seal_Envelope) h o_4 v_3 (fun (h : Heap) =>
  R (.pointer o_4) h))))) h
def seal_Envelope_Copy.ann : Ann := (.seq .leaf (.seq (.seq .leaf (.cond (.seq .leaf .leaf) .leaf)) (.seq .leaf (.seq .leaf .leaf))))
theorem seal_Envelope_Copy.eq (v0 : Option Addr) (R : Value → Heap → Prop) (h : Heap) : seal_Envelope_Copy.body v0 R h = evFn Tryz.prog Tryz.f12 seal_Envelope_Copy.ann [(.pointer v0)] R h := by kernel_rfl
theorem seal_Envelope_Copy.calls {v0 : Option Addr} {R : Value → Heap → Prop} {h : Heap} (H : seal_Envelope_Copy.body v0 R h) : HC Tryz.prog F.seal_Envelope_Copy #[(.pointer v0)] R h :=
  evFn_sound mixed Tryz.func12 (by kernel_rfl) (seal_Envelope_Copy.eq v0 R h ▸ H)

/-! zugzwang/zugzwanglaw24.entry -/
def law24_entry.body (m0 : Option Addr) (game1 : Array Value) (n2 : Int) (d3 : Array Value) (R : Value → Heap → Prop) (h : Heap) : Prop :=
  newK h game1 T.api_Tag (fun (game_1 : Option Addr) h =>
  newK h d3 T.zugzwanglaw24_Deed (fun (d_2 : Option Addr) h =>
  newK h (zerosOf Tryz.prog T.api_Entry) T.api_Entry (fun (v3 : Option Addr) h =>
  loadAggK (sizeOfT Tryz.prog T.api_Tag) h game_1 (fun (v4 : Array Value) =>
  buildK Tryz.prog (Instr.build T.api_Entry #[(0, (.agg v4)), (1, (.int .i64 n2))]) (fun (v5 : Array Value) =>
  newK h (zerosOf Tryz.prog T.api_Entry) T.api_Entry (fun (e_6 : Option Addr) h =>
  storeAggK (sizeOfT Tryz.prog T.api_Entry) h e_6 v5 (fun h =>
  loadAggK (sizeOfT Tryz.prog T.api_Tag) h game_1 (fun (v7 : Array Value) =>
  fldK d_2 2 (fun (a_8 : Addr) =>
  loadAggK (sizeOfT Tryz.prog T.api_Move) h ((some a_8)) (fun (v9 : Array Value) =>
  fldK d_2 5 (fun (a_10 : Addr) =>
  loadAggK (sizeOfT Tryz.prog T.api_Tag) h ((some a_10)) (fun (v11 : Array Value) =>
  callK Tryz.prog (Kd.trip .agg .agg (.int .i64)) F.ref24_Make #[.pointer m0, .agg v7, .int .i64 n2, .agg v9, .agg v11] (fun (v12 : Array Value × Array Value × Int) h =>
  newK h (zerosOf Tryz.prog T.api_Body) T.api_Body (fun (a_13 : Option Addr) h =>
  newK h (zerosOf Tryz.prog T.api_Body) T.api_Body (fun (b_14 : Option Addr) h =>
  storeAggK (sizeOfT Tryz.prog T.api_Body) h a_13 v12.1 (fun h =>
  storeAggK (sizeOfT Tryz.prog T.api_Body) h b_14 v12.2.1 (fun h =>
  fldK d_2 0 (fun (a_15 : Addr) =>
  loadK (.int .i64) h ((some a_15)) (fun (v16 : Int) =>
  callK Tryz.prog (.int .i64) F.kit_Pick #[.int .i64 v16, .int .i64 8] (fun (v17 : Int) h =>
  if (v17 == 1) = true then
  loadAggK (sizeOfT Tryz.prog T.api_Body) h a_13 (fun (v18 : Array Value) =>
  fldK e_6 65 (fun (a_19 : Addr) =>
  storeAggK (sizeOfT Tryz.prog T.api_Body) h ((some a_19)) v18 (fun h =>
  loadAggK (sizeOfT Tryz.prog T.api_Entry) h e_6 (fun (v20 : Array Value) =>
  storeAggK (sizeOfT Tryz.prog T.api_Entry) h v3 v20 (fun h =>
  quietK Tryz.prog .agg (Instr.loadAt T.api_Entry (.pointer v3)) (fun r21 =>
  R (.agg r21) h) h)))))
  else
  if (v17 == 2) = true then
  fldK e_6 65 (fun (a_22 : Addr) =>
  fldK ((some a_22)) 0 (fun (a_23 : Addr) =>
  storeK h ((some a_23)) (.int .i64 6) (fun h =>
  loadAggK (sizeOfT Tryz.prog T.api_Entry) h e_6 (fun (v24 : Array Value) =>
  storeAggK (sizeOfT Tryz.prog T.api_Entry) h v3 v24 (fun h =>
  quietK Tryz.prog .agg (Instr.loadAt T.api_Entry (.pointer v3)) (fun r25 =>
  R (.agg r25) h) h)))))
  else
  if (v17 == 3) = true then
  loadAggK (sizeOfT Tryz.prog T.api_Body) h b_14 (fun (v26 : Array Value) =>
  fldK e_6 65 (fun (a_27 : Addr) =>
  storeAggK (sizeOfT Tryz.prog T.api_Body) h ((some a_27)) v26 (fun h =>
  loadAggK (sizeOfT Tryz.prog T.api_Entry) h e_6 (fun (v28 : Array Value) =>
  storeAggK (sizeOfT Tryz.prog T.api_Entry) h v3 v28 (fun h =>
  quietK Tryz.prog .agg (Instr.loadAt T.api_Entry (.pointer v3)) (fun r29 =>
  R (.agg r29) h) h)))))
  else
  if (v17 == 4) = true then
  fldK e_6 65 (fun (a_30 : Addr) =>
  fldK ((some a_30)) 0 (fun (a_31 : Addr) =>
  storeK h ((some a_31)) (.int .i64 4) (fun h =>
  loadAggK (sizeOfT Tryz.prog T.api_Entry) h e_6 (fun (v32 : Array Value) =>
  storeAggK (sizeOfT Tryz.prog T.api_Entry) h v3 v32 (fun h =>
  quietK Tryz.prog .agg (Instr.loadAt T.api_Entry (.pointer v3)) (fun r33 =>
  R (.agg r33) h) h)))))
  else
  if (v17 == 5) = true then
  fldK d_2 37 (fun (a_34 : Addr) =>
  fldK ((some a_34)) 65 (fun (a_35 : Addr) =>
  loadAggK (sizeOfT Tryz.prog T.api_Body) h ((some a_35)) (fun (v36 : Array Value) =>
  fldK e_6 65 (fun (a_37 : Addr) =>
  storeAggK (sizeOfT Tryz.prog T.api_Body) h ((some a_37)) v36 (fun h =>
  loadAggK (sizeOfT Tryz.prog T.api_Entry) h e_6 (fun (v38 : Array Value) =>
  storeAggK (sizeOfT Tryz.prog T.api_Entry) h v3 v38 (fun h =>
  quietK Tryz.prog .agg (Instr.loadAt T.api_Entry (.pointer v3)) (fun r39 =>
  R (.agg r39) h) h)))))))
  else
  if (v17 == 6) = true then
  loadAggK (sizeOfT Tryz.prog T.api_Body) h b_14 (fun (v40 : Array Value) =>
  fldK e_6 65 (fun (a_41 : Addr) =>
  storeAggK (sizeOfT Tryz.prog T.api_Body) h ((some a_41)) v40 (fun h =>
  fldK d_2 1 (fun (a_42 : Addr) =>
  loadK (.int .i64) h ((some a_42)) (fun (v43 : Int) =>
  fldK e_6 32 (fun (a_44 : Addr) =>
  storeK h ((some a_44)) (.int .i64 (IntKind.i64.wrap (n2 + v43))) (fun h =>
  loadAggK (sizeOfT Tryz.prog T.api_Entry) h e_6 (fun (v45 : Array Value) =>
  storeAggK (sizeOfT Tryz.prog T.api_Entry) h v3 v45 (fun h =>
  quietK Tryz.prog .agg (Instr.loadAt T.api_Entry (.pointer v3)) (fun r46 =>
  R (.agg r46) h) h)))))))))
  else
  fldK d_2 37 (fun (a_47 : Addr) =>
  loadAggK (sizeOfT Tryz.prog T.api_Entry) h ((some a_47)) (fun (v48 : Array Value) =>
  storeAggK (sizeOfT Tryz.prog T.api_Entry) h v3 v48 (fun h =>
  quietK Tryz.prog .agg (Instr.loadAt T.api_Entry (.pointer v3)) (fun r49 =>
  R (.agg r49) h) h)))) h))))))) h))))))))))))
def law24_entry.ann : Ann := (.seq .leaf (.seq .leaf (.seq .leaf (.seq (.seq .leaf (.block (.seq .leaf (.cond .leaf (.seq .leaf (.cond .leaf (.seq .leaf (.cond .leaf (.seq .leaf (.cond .leaf (.seq .leaf (.cond .leaf (.seq .leaf (.cond (.seq .leaf .leaf) (.seq .leaf .leaf))))))))))))))) (.seq .leaf .leaf)))))
theorem law24_entry.eq (m0 : Option Addr) (game1 : Array Value) (n2 : Int) (d3 : Array Value) (R : Value → Heap → Prop) (h : Heap) : law24_entry.body m0 game1 n2 d3 R h = evFn Tryz.prog Tryz.f14 law24_entry.ann [.pointer m0, .agg game1, .int .i64 n2, .agg d3] R h := by kernel_rfl
theorem law24_entry.calls {m0 : Option Addr} {game1 : Array Value} {n2 : Int} {d3 : Array Value} {R : Value → Heap → Prop} {h : Heap} (H : law24_entry.body m0 game1 n2 d3 R h) : HC Tryz.prog F.law24_entry #[.pointer m0, .agg game1, .int .i64 n2, .agg d3] R h :=
  evFn_sound mixed Tryz.func14 (by kernel_rfl) (law24_entry.eq m0 game1 n2 d3 R h ▸ H)

/-! zugzwang/zugzwangkit.mark -/
def kit_mark.body (k0 : Int) (i1 : Int) (R : Value → Heap → Prop) (h : Heap) : Prop :=
  R (.int .i64 (IntKind.i64.wrap ((IntKind.i64.wrap (1000003 * (IntKind.i64.wrap (k0 + 7)))) + i1))) h
def kit_mark.ann : Ann := (.seq .leaf (.seq .leaf .leaf))
theorem kit_mark.eq (k0 : Int) (i1 : Int) (R : Value → Heap → Prop) (h : Heap) : kit_mark.body k0 i1 R h = evFn Tryz.prog Tryz.f50 kit_mark.ann [(.int .i64 k0), (.int .i64 i1)] R h := by kernel_rfl
theorem kit_mark.calls {k0 : Int} {i1 : Int} {R : Value → Heap → Prop} {h : Heap} (H : kit_mark.body k0 i1 R h) : HC Tryz.prog F.kit_mark #[(.int .i64 k0), (.int .i64 i1)] R h :=
  evFn_sound mixed Tryz.func50 (by kernel_rfl) (kit_mark.eq k0 i1 R h ▸ H)

/-! zugzwang/zugzwangkit.markEntry -/
def kit_markEntry.body (k0 : Int) (i1 : Int) (R : Value → Heap → Prop) (h : Heap) : Prop :=
  newK h (zerosOf Tryz.prog T.api_Entry) T.api_Entry (fun (v_1 : Option Addr) (h : Heap) =>
  callK Tryz.prog (.int .i64) F.kit_mark #[(.int .i64 k0), (.int .i64 i1)] (fun (v_2 : Int) (h : Heap) =>
  buildK Tryz.prog (Instr.build T.api_Entry #[(1, (.int .i64 v_2))]) (fun (v_3 : Array Value) =>
  storeAggK (sizeOfT Tryz.prog T.api_Entry) h v_1 v_3 (fun (h : Heap) =>
  quietK Tryz.prog .agg (Instr.loadAt T.api_Entry (.pointer v_1)) (fun (r_4 : Array Value) =>
  R (.agg r_4) h) h))) h)
def kit_markEntry.ann : Ann := (.seq .leaf (.seq .leaf .leaf))
theorem kit_markEntry.eq (k0 : Int) (i1 : Int) (R : Value → Heap → Prop) (h : Heap) : kit_markEntry.body k0 i1 R h = evFn Tryz.prog Tryz.f30 kit_markEntry.ann [(.int .i64 k0), (.int .i64 i1)] R h := by kernel_rfl
theorem kit_markEntry.calls {k0 : Int} {i1 : Int} {R : Value → Heap → Prop} {h : Heap} (H : kit_markEntry.body k0 i1 R h) : HC Tryz.prog F.kit_markEntry #[(.int .i64 k0), (.int .i64 i1)] R h :=
  evFn_sound mixed Tryz.func30 (by kernel_rfl) (kit_markEntry.eq k0 i1 R h ▸ H)

/-! zugzwang/zugzwangkit.LentEntries -/
def kit_LentEntries.body (l0 : Sl) (R : Value → Heap → Prop) (h : Heap) : Prop :=
  opK Tryz.prog .slice (Instr.makeSlice T.sl_api_Entry (.int .i64 0) (.int .i64 (IntKind.i64.wrap (((l0.n : Int)) + 12)))) (fun (v_1 : Sl) (h : Heap) =>
  opK Tryz.prog .slice (Builtin.append_ #[T.sl_api_Entry, T.sl_api_Entry] T.sl_api_Entry #[(.slice v_1.a v_1.n v_1.c), (.slice l0.a l0.n l0.c)]) (fun (v_2 : Sl) (h : Heap) =>
  loopW (fun X_4 (s_3 : Sl × Int) (h : Heap) =>
  if (decide (s_3.2 < 12)) = true then
  callK Tryz.prog .agg F.kit_markEntry #[(.int .i64 1), (.int .i64 s_3.2)] (fun (v_5 : Array Value) (h : Heap) =>
  opK Tryz.prog .slice (Instr.buildSlice T.sl_api_Entry 1 #[(0, (.agg v_5))]) (fun (v_6 : Sl) (h : Heap) =>
  opK Tryz.prog .slice (Builtin.append_ #[T.sl_api_Entry, T.sl_api_Entry] T.sl_api_Entry #[(.slice s_3.1.a s_3.1.n s_3.1.c), (.slice v_6.a v_6.n v_6.c)]) (fun (v_7 : Sl) (h : Heap) =>
  X_4 (v_7, IntKind.i64.wrap (s_3.2 + 1)) h) h) h) h
  else
  sliceK s_3.1 none (some ((l0.n : Int))) none (sizeOfT Tryz.prog T.api_Entry) (fun (v_8 : Sl) =>
  R (.slice v_8.a v_8.n v_8.c) h)) (v_2, 0) h) h) h
def kit_LentEntries.ann : Ann := (.seq .leaf (.seq .leaf (.seq .leaf (.seq (.seq .leaf (.block (.loop [(3, .slice), (4, (.int .i64))] (.seq (.seq .leaf (.cond .leaf .leaf)) (.seq (.block .leaf) .leaf))))) (.seq .leaf .leaf)))))
theorem kit_LentEntries.eq (l0 : Sl) (R : Value → Heap → Prop) (h : Heap) : kit_LentEntries.body l0 R h = evFn Tryz.prog Tryz.f15 kit_LentEntries.ann [(.slice l0.a l0.n l0.c)] R h := by kernel_rfl
theorem kit_LentEntries.calls {l0 : Sl} {R : Value → Heap → Prop} {h : Heap} (H : kit_LentEntries.body l0 R h) : HC Tryz.prog F.kit_LentEntries #[(.slice l0.a l0.n l0.c)] R h :=
  evFn_sound mixed Tryz.func15 (by kernel_rfl) (kit_LentEntries.eq l0 R h ▸ H)

/-! zugzwang/zugzwangref18.Entry -/
def ref18_Entry.body (e0 : Array Value) (R : Value → Heap → Prop) (h : Heap) : Prop :=
  newK h e0 T.api_Entry (fun (e_1 : Option Addr) (h : Heap) =>
  fldK e_1 32 (fun (a_2 : Addr) =>
  loadK (.int .i64) h ((some a_2)) (fun (v_3 : Int) =>
  if (decide (v_3 ≥ 0)) = true then
  fldK e_1 32 (fun (a_4 : Addr) =>
  loadK (.int .i64) h ((some a_4)) (fun (v_5 : Int) =>
  if (decide (v_5 ≤ 4294967295)) = true then
  fldK e_1 65 (fun (a_6 : Addr) =>
  loadAggK (sizeOfT Tryz.prog T.api_Body) h ((some a_6)) (fun (v_7 : Array Value) =>
  callK Tryz.prog .bool F.ref18_Body #[(.agg v_7)] (fun (v_8 : Bool) (h : Heap) =>
  R (.bool v_8) h) h))
  else
  R (.bool false) h))
  else
  R (.bool false) h)))
def ref18_Entry.ann : Ann := (.seq .leaf (.seq .leaf .leaf))
theorem ref18_Entry.eq (e0 : Array Value) (R : Value → Heap → Prop) (h : Heap) : ref18_Entry.body e0 R h = evFn Tryz.prog Tryz.f33 ref18_Entry.ann [(.agg e0)] R h := by kernel_rfl
theorem ref18_Entry.calls {e0 : Array Value} {R : Value → Heap → Prop} {h : Heap} (H : ref18_Entry.body e0 R h) : HC Tryz.prog F.ref18_Entry #[(.agg e0)] R h :=
  evFn_sound mixed Tryz.func33 (by kernel_rfl) (ref18_Entry.eq e0 R h ▸ H)

/-! (*zugzwang/zugzwangref24.Envelope).Why -/
def ref24_Envelope_Why.body (v0 : Option Addr) (e1 : Array Value) (R : Value → Heap → Prop) (h : Heap) : Prop :=
  newK h e1 T.api_Entry (fun (e_1 : Option Addr) h =>
  loadAggK (sizeOfT Tryz.prog T.api_Entry) h e_1 (fun (v2 : Array Value) =>
  callK Tryz.prog .bool F.ref18_Entry #[.agg v2] (fun (v3 : Bool) h =>
  if (!v3) = true then
  R (.int .i64 2) h
  else
  fldK e_1 0 (fun (a_4 : Addr) =>
  loadAggK (sizeOfT Tryz.prog T.api_Tag) h ((some a_4)) (fun (v5 : Array Value) =>
  derefK v0 (fun (a_6 : Addr) =>
  fldK ((some a_6)) 1 (fun (a_7 : Addr) =>
  loadAggK (sizeOfT Tryz.prog T.api_Tag) h ((some a_7)) (fun (v8 : Array Value) =>
  eqK Tryz.prog (binSem .neq T.api_Tag (.tmp 12) (.tmp 16) (.agg v5) (.agg v8)) (fun (v9 : Bool) =>
  if v9 = true then
  R (.int .i64 14) h
  else
  fldK e_1 65 (fun (a_10 : Addr) =>
  fldK ((some a_10)) 0 (fun (a_11 : Addr) =>
  loadK (.int .i64) h ((some a_11)) (fun (v12 : Int) =>
  if (v12 == 4) = true then
  R (.int .i64 0) h
  else
  joinW (fun (s_13 : Bool) h =>
  if s_13 = true then
  R (.int .i64 18) h
  else
  derefK v0 (fun (a_14 : Addr) =>
  fldK ((some a_14)) 33 (fun (a_15 : Addr) =>
  loadK (.int .i64) h ((some a_15)) (fun (v16 : Int) =>
  if (v16 == 1) = true then
  R (.int .i64 0) h
  else
  joinW (fun (s_17 : Bool) h =>
  if s_17 = true then
  fldK e_1 32 (fun (a_18 : Addr) =>
  loadK (.int .i64) h ((some a_18)) (fun (v19 : Int) =>
  derefK v0 (fun (a_20 : Addr) =>
  fldK ((some a_20)) 34 (fun (a_21 : Addr) =>
  loadK (.int .i64) h ((some a_21)) (fun (v22 : Int) =>
  if (v19 != (IntKind.i64.wrap (v22 + 1))) = true then
  R (.int .i64 11) h
  else
  R (.int .i64 0) h)))))
  else
  joinW (fun (s_23 : Bool) h =>
  if s_23 = true then
  fldK e_1 32 (fun (a_24 : Addr) =>
  loadK (.int .i64) h ((some a_24)) (fun (v25 : Int) =>
  derefK v0 (fun (a_26 : Addr) =>
  fldK ((some a_26)) 34 (fun (a_27 : Addr) =>
  loadK (.int .i64) h ((some a_27)) (fun (v28 : Int) =>
  if (v25 != (IntKind.i64.wrap (v28 + 2))) = true then
  R (.int .i64 11) h
  else
  joinW (fun (s_29 : Option Addr × Int) h =>
  if (s_29.2 != 0) = true then
  R (.int .i64 16) h
  else
  loadAggK (sizeOfT Tryz.prog T.api_Tag) h s_29.1 (fun (v30 : Array Value) =>
  derefK v0 (fun (a_31 : Addr) =>
  fldK ((some a_31)) 35 (fun (a_32 : Addr) =>
  loadAggK (sizeOfT Tryz.prog T.api_Tag) h ((some a_32)) (fun (v33 : Array Value) =>
  eqK Tryz.prog (binSem .neq T.api_Tag (.tmp 105) (.tmp 109) (.agg v30) (.agg v33)) (fun (v34 : Bool) =>
  if v34 = true then
  R (.int .i64 16) h
  else
  R (.int .i64 0) h))))))
  (fun J_35 =>
  derefK v0 (fun (a_36 : Addr) =>
  fldK ((some a_36)) 0 (fun (a_37 : Addr) =>
  derefK v0 (fun (a_38 : Addr) =>
  fldK ((some a_38)) 1 (fun (a_39 : Addr) =>
  derefK v0 (fun (a_40 : Addr) =>
  fldK ((some a_40)) 34 (fun (a_41 : Addr) =>
  fldK e_1 65 (fun (a_42 : Addr) =>
  fldK ((some a_42)) 1 (fun (a_43 : Addr) =>
  fldK e_1 65 (fun (a_44 : Addr) =>
  fldK ((some a_44)) 38 (fun (a_45 : Addr) =>
  loadK .ptr h ((some a_37)) (fun (v46 : Option Addr) =>
  loadAggK (sizeOfT Tryz.prog T.api_Tag) h ((some a_39)) (fun (v47 : Array Value) =>
  loadK (.int .i64) h ((some a_41)) (fun (v48 : Int) =>
  loadAggK (sizeOfT Tryz.prog T.api_Move) h ((some a_43)) (fun (v49 : Array Value) =>
  loadAggK (sizeOfT Tryz.prog T.api_Tag) h ((some a_45)) (fun (v50 : Array Value) =>
  ((callK Tryz.prog (Kd.pair .agg (.int .i64)) F.ref22_Move #[.pointer v46, .agg v47, .int .i64 v48, .agg v49, .agg v50] (fun (v51 : Array Value × Int) h =>
  newK h (zerosOf Tryz.prog T.api_Tag) T.api_Tag (fun (t_52 : Option Addr) h =>
  storeAggK (sizeOfT Tryz.prog T.api_Tag) h t_52 v51.1 (fun h =>
  J_35 (t_52, v51.2) h))) h) ∧
  (newK h (zerosOf Tryz.prog T.api_Tag) T.api_Tag (fun (t_53 : Option Addr) h =>
  callK Tryz.prog (Kd.pair .agg (.int .i64)) F.ref22_Move #[.pointer v46, .agg v47, .int .i64 v48, .agg v49, .agg v50] (fun (v54 : Array Value × Int) h =>
  storeAggK (sizeOfT Tryz.prog T.api_Tag) h t_53 v54.1 (fun h =>
  J_35 (t_53, v54.2) h)) h))))))))))))))))))))))))
  else
  R (.int .i64 18) h)
  (fun J_55 =>
  derefK v0 (fun (a_56 : Addr) =>
  fldK ((some a_56)) 33 (fun (a_57 : Addr) =>
  loadK (.int .i64) h ((some a_57)) (fun (v58 : Int) =>
  if (v58 == 3) = true then
  J_55 (v12 == 7) h
  else
  J_55 false h)))))
  (fun J_59 =>
  derefK v0 (fun (a_60 : Addr) =>
  fldK ((some a_60)) 33 (fun (a_61 : Addr) =>
  loadK (.int .i64) h ((some a_61)) (fun (v62 : Int) =>
  if (v62 == 2) = true then
  J_59 (v12 == 6) h
  else
  J_59 false h))))))))
  (fun J_63 =>
  derefK v0 (fun (a_64 : Addr) =>
  fldK ((some a_64)) 33 (fun (a_65 : Addr) =>
  loadK (.int .i64) h ((some a_65)) (fun (v66 : Int) =>
  if (v66 == 1) = true then
  if (v12 == 6) = true then
  J_63 true h
  else
  J_63 (v12 == 7) h
  else
  J_63 false h)))))))))))))) h))
def ref24_Envelope_Why.ann : Ann := (.seq .leaf (.seq (.seq .leaf (.cond (.seq .leaf .leaf) .leaf)) (.seq (.seq .leaf (.cond (.seq .leaf .leaf) .leaf)) (.seq .leaf (.seq (.block (.seq .leaf (.cond (.seq .leaf .leaf) (.join [(24, .bool)] .leaf (.cond (.seq .leaf .leaf) (.seq .leaf (.cond (.seq .leaf .leaf) (.join [(44, .bool)] .leaf (.cond (.seq (.seq .leaf (.cond (.seq .leaf .leaf) .leaf)) (.seq .leaf .leaf)) (.join [(62, .bool)] .leaf (.cond (.seq (.seq .leaf (.cond (.seq .leaf .leaf) .leaf)) (.join [(6, .ptr), (7, (.int .i64))] (.any (.loc 0 (.loc 1 (.loc 2 (.loc 4 (.loc 5 (.loc 6 (.loc 8 (.loc 9 (.loc 10 (.loc 12 (.loc 13 (.loc 15 (.loc 16 (.st 3 29097984 (.st 7 29097984 (.st 11 29097984 (.st 14 29097984 (.st 17 29097984 (.alt 18 (.loc 19 (.loc 20 (.loc 21 (.last 22 (.last 23 (.loc 24 .done)))))) (.last 22 (.last 18 (.loc 19 (.loc 20 (.loc 21 (.last 23 (.loc 24 .done))))))))))))))))))))))))))) (.seq (.seq .leaf (.cond (.seq .leaf .leaf) .leaf)) (.seq .leaf .leaf)))) .leaf))))))))))) (.seq .leaf .leaf))))))
theorem ref24_Envelope_Why.eq (v0 : Option Addr) (e1 : Array Value) (R : Value → Heap → Prop) (h : Heap) : ref24_Envelope_Why.body v0 e1 R h = evFn Tryz.prog Tryz.f17 ref24_Envelope_Why.ann [.pointer v0, .agg e1] R h := by kernel_rfl
theorem ref24_Envelope_Why.calls {v0 : Option Addr} {e1 : Array Value} {R : Value → Heap → Prop} {h : Heap} (H : ref24_Envelope_Why.body v0 e1 R h) : HC Tryz.prog F.ref24_Envelope_Why #[.pointer v0, .agg e1] R h :=
  evFn_sound mixed Tryz.func17 (by kernel_rfl) (ref24_Envelope_Why.eq v0 e1 R h ▸ H)

/-! (*zugzwang/seal.Envelope).Seal -/
def seal_Envelope_Seal.body (v0 : Option Addr) (R : Value → Heap → Prop) (h : Heap) : Prop :=
  newK h (zerosOf Tryz.prog T.api_Tag) T.api_Tag (fun (t_1 : Option Addr) h =>
  callK Tryz.prog .bool F.seal_Envelope_made #[.pointer v0] (fun (v2 : Bool) h =>
  if (!v2) = true then
  loadAggK (sizeOfT Tryz.prog T.api_Tag) h t_1 (fun (v3 : Array Value) =>
  storeAggK (sizeOfT Tryz.prog T.api_Tag) h t_1 v3 (fun h =>
  quietK Tryz.prog .agg (Instr.loadAt T.api_Tag (.pointer t_1)) (fun r4 =>
  R (.tuple #[.int .i64 0, .agg r4, .bool false]) h) h))
  else
  derefK v0 (fun (a_5 : Addr) =>
  fldK ((some a_5)) 66 (fun (a_6 : Addr) =>
  loadK (.int .i64) h ((some a_6)) (fun (v7 : Int) =>
  if (v7 == 1) = true then
  loadAggK (sizeOfT Tryz.prog T.api_Tag) h t_1 (fun (v8 : Array Value) =>
  storeAggK (sizeOfT Tryz.prog T.api_Tag) h t_1 v8 (fun h =>
  quietK Tryz.prog .agg (Instr.loadAt T.api_Tag (.pointer t_1)) (fun r9 =>
  R (.tuple #[.int .i64 0, .agg r9, .bool false]) h) h))
  else
  derefK v0 (fun (a_10 : Addr) =>
  fldK ((some a_10)) 0 (fun (a_11 : Addr) =>
  fldK ((some a_11)) 33 (fun (a_12 : Addr) =>
  derefK v0 (fun (a_13 : Addr) =>
  fldK ((some a_13)) 0 (fun (a_14 : Addr) =>
  fldK ((some a_14)) 34 (fun (a_15 : Addr) =>
  loadK (.int .i64) h ((some a_12)) (fun (v16 : Int) =>
  loadAggK (sizeOfT Tryz.prog T.api_Tag) h ((some a_15)) (fun (v17 : Array Value) =>
  storeAggK (sizeOfT Tryz.prog T.api_Tag) h t_1 v17 (fun h =>
  quietK Tryz.prog .agg (Instr.loadAt T.api_Tag (.pointer t_1)) (fun r18 =>
  R (.tuple #[.int .i64 v16, .agg r18, .bool true]) h) h))))))))))))) h)
def seal_Envelope_Seal.ann : Ann := (.seq .leaf (.seq (.seq .leaf (.cond (.seq (.any (.loc 1 (.st 0 12 (.last 2 (.loc 3 .done))))) .leaf) .leaf)) (.seq (.any (.loc 0 (.loc 1 (.loc 2 (.loc 3 (.loc 5 (.loc 6 (.loc 7 (.loc 8 (.st 4 7168 (.loc 10 (.st 9 6144 (.last 11 (.loc 12 .done)))))))))))))) .leaf)))
theorem seal_Envelope_Seal.eq (v0 : Option Addr) (R : Value → Heap → Prop) (h : Heap) : seal_Envelope_Seal.body v0 R h = evFn Tryz.prog Tryz.f34 seal_Envelope_Seal.ann [.pointer v0] R h := by kernel_rfl
theorem seal_Envelope_Seal.calls {v0 : Option Addr} {R : Value → Heap → Prop} {h : Heap} (H : seal_Envelope_Seal.body v0 R h) : HC Tryz.prog F.seal_Envelope_Seal #[.pointer v0] R h :=
  evFn_sound mixed Tryz.func34 (by kernel_rfl) (seal_Envelope_Seal.eq v0 R h ▸ H)

/-! zugzwang/zugzwanglaw24.same -/
def law24_same.body (v0 : Option Addr) (r1 : Option Addr) (R : Value → Heap → Prop) (h : Heap) : Prop :=
  callK Tryz.prog (Kd.trip (.int .i64) .agg .bool) F.seal_Envelope_Seal #[.pointer v0] (fun (v1 : Int × Array Value × Bool) h =>
  newK h (zerosOf Tryz.prog T.api_Tag) T.api_Tag (fun (t_2 : Option Addr) h =>
  storeAggK (sizeOfT Tryz.prog T.api_Tag) h t_2 v1.2.1 (fun h =>
  callK Tryz.prog (Kd.pair .agg .bool) F.seal_Envelope_Opened #[.pointer v0] (fun (v3 : Array Value × Bool) h =>
  newK h (zerosOf Tryz.prog T.api_Move) T.api_Move (fun (x_4 : Option Addr) h =>
  storeAggK (sizeOfT Tryz.prog T.api_Move) h x_4 v3.1 (fun h =>
  derefK r1 (fun (a_5 : Addr) =>
  fldK ((some a_5)) 33 (fun (a_6 : Addr) =>
  loadK (.int .i64) h ((some a_6)) (fun (v7 : Int) =>
  callQ Tryz.prog (.int .i64) F.seal_Envelope_State #[.pointer v0] (fun (v8 : Int) =>
  derefK r1 (fun (a_9 : Addr) =>
  fldK ((some a_9)) 33 (fun (a_10 : Addr) =>
  loadK (.int .i64) h ((some a_10)) (fun (v11 : Int) =>
  if (v8 == v11) = true then
  if (v1.2.2 == (v7 != 1)) = true then
  derefK r1 (fun (a_12 : Addr) =>
  fldK ((some a_12)) 34 (fun (a_13 : Addr) =>
  loadK (.int .i64) h ((some a_13)) (fun (v14 : Int) =>
  if (v1.1 == v14) = true then
  loadAggK (sizeOfT Tryz.prog T.api_Tag) h t_2 (fun (v15 : Array Value) =>
  derefK r1 (fun (a_16 : Addr) =>
  fldK ((some a_16)) 35 (fun (a_17 : Addr) =>
  loadAggK (sizeOfT Tryz.prog T.api_Tag) h ((some a_17)) (fun (v18 : Array Value) =>
  eqK Tryz.prog (binSem .eql T.api_Tag (.tmp 48) (.tmp 52) (.agg v15) (.agg v18)) (fun (v19 : Bool) =>
  if v19 = true then
  loadAggK (sizeOfT Tryz.prog T.api_Move) h x_4 (fun (v20 : Array Value) =>
  derefK r1 (fun (a_21 : Addr) =>
  fldK ((some a_21)) 67 (fun (a_22 : Addr) =>
  loadAggK (sizeOfT Tryz.prog T.api_Move) h ((some a_22)) (fun (v23 : Array Value) =>
  eqK Tryz.prog (binSem .eql T.api_Move (.tmp 56) (.tmp 60) (.agg v20) (.agg v23)) (fun (v24 : Bool) =>
  if v24 = true then
  derefK r1 (fun (a_25 : Addr) =>
  fldK ((some a_25)) 70 (fun (a_26 : Addr) =>
  loadK .bool h ((some a_26)) (fun (v27 : Bool) =>
  R (.bool (v3.2 == v27)) h)))
  else
  R (.bool false) h)))))
  else
  R (.bool false) h)))))
  else
  R (.bool false) h)))
  else
  R (.bool false) h
  else
  R (.bool false) h)))) h)))))) h))) h
def law24_same.ann : Ann := (.seq .leaf (.seq .leaf (.seq .leaf (.seq .leaf (.seq .leaf .leaf)))))
theorem law24_same.eq (v0 : Option Addr) (r1 : Option Addr) (R : Value → Heap → Prop) (h : Heap) : law24_same.body v0 r1 R h = evFn Tryz.prog Tryz.f18 law24_same.ann [.pointer v0, .pointer r1] R h := by kernel_rfl
theorem law24_same.calls {v0 : Option Addr} {r1 : Option Addr} {R : Value → Heap → Prop} {h : Heap} (H : law24_same.body v0 r1 R h) : HC Tryz.prog F.law24_same #[.pointer v0, .pointer r1] R h :=
  evFn_sound mixed Tryz.func18 (by kernel_rfl) (law24_same.eq v0 r1 R h ▸ H)

/-! (*zugzwang/zugzwangref24.Envelope).Take -/
def ref24_Envelope_Take.body (v0 : Option Addr) (l1 : Sl) (R : Value → Heap → Prop) (h : Heap) : Prop :=
  loopW (fun X_2 (s_1 : Int) (h : Heap) =>
  if (decide (s_1 < ((l1.n : Int)))) = true then
  idxK l1 s_1 (sizeOfT Tryz.prog T.api_Entry) (fun (a_3 : Addr) =>
  loadAggK (sizeOfT Tryz.prog T.api_Entry) h ((some a_3)) (fun (v4 : Array Value) =>
  callK Tryz.prog (.int .i64) F.ref24_Envelope_Why #[.pointer v0, .agg v4] (fun (v5 : Int) h =>
  if (v5 != 0) = true then
  R (.int .i64 v5) h
  else
  idxK l1 s_1 (sizeOfT Tryz.prog T.api_Entry) (fun (a_6 : Addr) =>
  fldK ((some a_6)) 65 (fun (a_7 : Addr) =>
  fldK ((some a_7)) 0 (fun (a_8 : Addr) =>
  loadK (.int .i64) h ((some a_8)) (fun (v9 : Int) =>
  if (v9 == 5) = true then
  derefK v0 (fun (a_10 : Addr) =>
  fldK ((some a_10)) 33 (fun (a_11 : Addr) =>
  storeK h ((some a_11)) (.int .i64 2) (fun h =>
  idxK l1 s_1 (sizeOfT Tryz.prog T.api_Entry) (fun (a_12 : Addr) =>
  fldK ((some a_12)) 32 (fun (a_13 : Addr) =>
  loadK (.int .i64) h ((some a_13)) (fun (v14 : Int) =>
  derefK v0 (fun (a_15 : Addr) =>
  fldK ((some a_15)) 34 (fun (a_16 : Addr) =>
  storeK h ((some a_16)) (.int .i64 v14) (fun h =>
  idxK l1 s_1 (sizeOfT Tryz.prog T.api_Entry) (fun (a_17 : Addr) =>
  fldK ((some a_17)) 65 (fun (a_18 : Addr) =>
  fldK ((some a_18)) 6 (fun (a_19 : Addr) =>
  loadAggK (sizeOfT Tryz.prog T.api_Tag) h ((some a_19)) (fun (v20 : Array Value) =>
  derefK v0 (fun (a_21 : Addr) =>
  fldK ((some a_21)) 35 (fun (a_22 : Addr) =>
  storeAggK (sizeOfT Tryz.prog T.api_Tag) h ((some a_22)) v20 (fun h =>
  X_2 (IntKind.i64.wrap (s_1 + 1)) h))))))))))))))))
  else
  if (v9 == 6) = true then
  derefK v0 (fun (a_23 : Addr) =>
  fldK ((some a_23)) 33 (fun (a_24 : Addr) =>
  storeK h ((some a_24)) (.int .i64 3) (fun h =>
  X_2 (IntKind.i64.wrap (s_1 + 1)) h)))
  else
  if (v9 == 7) = true then
  derefK v0 (fun (a_25 : Addr) =>
  fldK ((some a_25)) 33 (fun (a_26 : Addr) =>
  storeK h ((some a_26)) (.int .i64 1) (fun h =>
  derefK v0 (fun (a_27 : Addr) =>
  fldK ((some a_27)) 34 (fun (a_28 : Addr) =>
  storeK h ((some a_28)) (.int .i64 0) (fun h =>
  buildK Tryz.prog (Instr.build T.api_Tag #[]) (fun (v29 : Array Value) =>
  derefK v0 (fun (a_30 : Addr) =>
  fldK ((some a_30)) 35 (fun (a_31 : Addr) =>
  storeAggK (sizeOfT Tryz.prog T.api_Tag) h ((some a_31)) v29 (fun h =>
  idxK l1 s_1 (sizeOfT Tryz.prog T.api_Entry) (fun (a_32 : Addr) =>
  fldK ((some a_32)) 65 (fun (a_33 : Addr) =>
  fldK ((some a_33)) 1 (fun (a_34 : Addr) =>
  loadAggK (sizeOfT Tryz.prog T.api_Move) h ((some a_34)) (fun (v35 : Array Value) =>
  derefK v0 (fun (a_36 : Addr) =>
  fldK ((some a_36)) 67 (fun (a_37 : Addr) =>
  storeAggK (sizeOfT Tryz.prog T.api_Move) h ((some a_37)) v35 (fun h =>
  derefK v0 (fun (a_38 : Addr) =>
  fldK ((some a_38)) 70 (fun (a_39 : Addr) =>
  storeK h ((some a_39)) (.bool true) (fun h =>
  X_2 (IntKind.i64.wrap (s_1 + 1)) h))))))))))))))))))))
  else
  X_2 (IntKind.i64.wrap (s_1 + 1)) h))))) h))
  else
  R (.int .i64 0) h) 0 h
def ref24_Envelope_Take.ann : Ann := (.seq .leaf (.seq (.seq .leaf (.block (.loop [(5, (.int .i64))] (.seq (.seq .leaf (.cond .leaf .leaf)) (.seq (.block (.seq .leaf (.seq (.seq .leaf (.cond (.seq .leaf .leaf) .leaf)) (.seq .leaf (.block (.seq .leaf (.cond (.seq .leaf (.seq .leaf .leaf)) (.seq .leaf (.cond .leaf (.seq .leaf (.cond (.seq .leaf (.seq .leaf (.seq .leaf (.seq .leaf .leaf)))) .leaf))))))))))) .leaf))))) (.seq .leaf .leaf)))
theorem ref24_Envelope_Take.eq (v0 : Option Addr) (l1 : Sl) (R : Value → Heap → Prop) (h : Heap) : ref24_Envelope_Take.body v0 l1 R h = evFn Tryz.prog Tryz.f19 ref24_Envelope_Take.ann [.pointer v0, .slice l1.a l1.n l1.c] R h := by kernel_rfl
theorem ref24_Envelope_Take.calls {v0 : Option Addr} {l1 : Sl} {R : Value → Heap → Prop} {h : Heap} (H : ref24_Envelope_Take.body v0 l1 R h) : HC Tryz.prog F.ref24_Envelope_Take #[.pointer v0, .slice l1.a l1.n l1.c] R h :=
  evFn_sound mixed Tryz.func19 (by kernel_rfl) (ref24_Envelope_Take.eq v0 l1 R h ▸ H)

/-! zugzwang/zugzwangkit.KeptEntries -/
def kit_KeptEntries.body (out0 : Sl) (l1 : Sl) (R : Value → Heap → Prop) (h : Heap) : Prop :=
  if (((out0.n : Int)) != ((l1.n : Int))) = true then
  R (.bool false) h
  else
  sliceK out0 none (some (IntKind.i64.wrap (((l1.n : Int)) + 12))) none (sizeOfT Tryz.prog T.api_Entry) (fun (v1 : Sl) =>
  loopW (fun X_3 (s_2 : Int) (h : Heap) =>
  if (decide (s_2 < ((v1.n : Int)))) = true then
  if (decide (s_2 < ((l1.n : Int)))) = true then
  idxK v1 s_2 (sizeOfT Tryz.prog T.api_Entry) (fun (a_4 : Addr) =>
  idxK l1 s_2 (sizeOfT Tryz.prog T.api_Entry) (fun (a_5 : Addr) =>
  loadAggK (sizeOfT Tryz.prog T.api_Entry) h ((some a_4)) (fun (v6 : Array Value) =>
  loadAggK (sizeOfT Tryz.prog T.api_Entry) h ((some a_5)) (fun (v7 : Array Value) =>
  eqK Tryz.prog (binSem .eql T.api_Entry (.tmp 31) (.tmp 35) (.agg v6) (.agg v7)) (fun (v8 : Bool) =>
  if (!v8) = true then
  R (.bool false) h
  else
  if (decide (s_2 ≥ ((l1.n : Int)))) = true then
  idxK v1 s_2 (sizeOfT Tryz.prog T.api_Entry) (fun (a_9 : Addr) =>
  loadAggK (sizeOfT Tryz.prog T.api_Entry) h ((some a_9)) (fun (v10 : Array Value) =>
  callK Tryz.prog .agg F.kit_markEntry #[.int .i64 1, (.int .i64 (IntKind.i64.wrap (s_2 - ((l1.n : Int)))))] (fun (v11 : Array Value) h =>
  stillAggK (sizeOfT Tryz.prog T.api_Entry) h ((some a_9)) v10 ∧
  eqK Tryz.prog (binSem .eql T.api_Entry (.tmp 48) (.tmp 53) (.agg v10) (.agg v11)) (fun (v12 : Bool) =>
  if (!v12) = true then
  R (.bool false) h
  else
  X_3 (IntKind.i64.wrap (s_2 + 1)) h)) h))
  else
  X_3 (IntKind.i64.wrap (s_2 + 1)) h)))))
  else
  if (decide (s_2 ≥ ((l1.n : Int)))) = true then
  idxK v1 s_2 (sizeOfT Tryz.prog T.api_Entry) (fun (a_13 : Addr) =>
  loadAggK (sizeOfT Tryz.prog T.api_Entry) h ((some a_13)) (fun (v14 : Array Value) =>
  callK Tryz.prog .agg F.kit_markEntry #[.int .i64 1, (.int .i64 (IntKind.i64.wrap (s_2 - ((l1.n : Int)))))] (fun (v15 : Array Value) h =>
  stillAggK (sizeOfT Tryz.prog T.api_Entry) h ((some a_13)) v14 ∧
  eqK Tryz.prog (binSem .eql T.api_Entry (.tmp 48) (.tmp 53) (.agg v14) (.agg v15)) (fun (v16 : Bool) =>
  if (!v16) = true then
  R (.bool false) h
  else
  X_3 (IntKind.i64.wrap (s_2 + 1)) h)) h))
  else
  X_3 (IntKind.i64.wrap (s_2 + 1)) h
  else
  R (.bool true) h) 0 h)
def kit_KeptEntries.ann : Ann := (.seq .leaf (.seq (.seq .leaf (.cond (.seq .leaf .leaf) .leaf)) (.seq .leaf (.seq (.seq .leaf (.block (.loop [(6, (.int .i64))] (.seq (.seq .leaf (.cond .leaf .leaf)) (.seq (.block (.seq (.any (.loc 0 (.loc 1 (.loc 2 (.loc 3 (.loc 4 (.locA 5 (.loc 6 (.loc 7 (.loc 9 (.loc 10 (.loc 11 (.st 8 34359730176 (.st 12 34359730176 (.loc 13 (.loc 14 (.loc 15 (.loc 16 (.locA 17 (.loc 18 (.loc 19 (.loc 20 (.loc 21 (.loc 22 (.loc 23 (.loc 24 (.loc 25 (.loc 26 (.loc 27 (.loc 28 (.loc 29 (.loc 30 (.loc 31 (.loc 32 (.loc 33 (.loc 34 .done))))))))))))))))) (.loc 18 (.loc 19 (.loc 20 (.loc 21 (.locA 22 (.loc 23 (.loc 24 (.loc 26 (.loc 27 (.loc 28 (.loc 29 (.st 25 32212254720 (.last 30 (.loc 31 (.loc 32 (.loc 33 (.loc 34 .done)))))))))))) (.loc 23 (.loc 24 (.loc 25 (.loc 26 (.loc 27 (.loc 28 (.loc 29 (.loc 30 (.loc 31 (.loc 32 (.loc 33 (.loc 34 .done))))))))))))))))))))))))))))) (.loc 6 (.loc 7 (.loc 8 (.loc 9 (.loc 10 (.loc 11 (.loc 12 (.loc 13 (.loc 14 (.loc 15 (.loc 16 (.loc 17 (.loc 18 (.loc 19 (.loc 20 (.loc 21 (.locA 22 (.loc 23 (.loc 24 (.loc 26 (.loc 27 (.loc 28 (.loc 29 (.st 25 32212254720 (.last 30 (.loc 31 (.loc 32 (.loc 33 (.loc 34 .done)))))))))))) (.loc 23 (.loc 24 (.loc 25 (.loc 26 (.loc 27 (.loc 28 (.loc 29 (.loc 30 (.loc 31 (.loc 32 (.loc 33 (.loc 34 .done)))))))))))))))))))))))))))))))))))) (.cond (.seq .leaf .leaf) .leaf))) .leaf))))) (.seq .leaf .leaf)))))
theorem kit_KeptEntries.eq (out0 : Sl) (l1 : Sl) (R : Value → Heap → Prop) (h : Heap) : kit_KeptEntries.body out0 l1 R h = evFn Tryz.prog Tryz.f20 kit_KeptEntries.ann [.slice out0.a out0.n out0.c, .slice l1.a l1.n l1.c] R h := by kernel_rfl
theorem kit_KeptEntries.calls {out0 : Sl} {l1 : Sl} {R : Value → Heap → Prop} {h : Heap} (H : kit_KeptEntries.body out0 l1 R h) : HC Tryz.prog F.kit_KeptEntries #[.slice out0.a out0.n out0.c, .slice l1.a l1.n l1.c] R h :=
  evFn_sound mixed Tryz.func20 (by kernel_rfl) (kit_KeptEntries.eq out0 l1 R h ▸ H)

end Go.Proofs.YtejjeggaofpbiaaGreat
