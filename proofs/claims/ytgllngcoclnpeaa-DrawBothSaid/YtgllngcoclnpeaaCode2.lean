import Derived.Test.YtgllngcoclnpeaaSig
set_option linter.unusedVariables false
set_option maxRecDepth 100000
namespace Go.Proofs.Ytgllngcoclnpeaa
open Go.Ev
/-! (*zugzwang/draw.Draw).left -/
def draw_Draw_left.body (d0 : Option Addr) (x1 : Array Value) (R : Value → Heap → Prop) (h : Heap) : Prop :=
  newK h x1 T.api_Msg (fun (v1 : Option Addr) h =>
  joinW (fun (s_2 : Unit) h =>
  derefK d0 (fun (a_3 : Addr) =>
  fldK ((some a_3)) 133 (fun (a_4 : Addr) =>
  storeK h ((some a_4)) (.int .i64 4) (fun h =>
  derefK d0 (fun (a_5 : Addr) =>
  fldK ((some a_5)) 99 (fun (a_6 : Addr) =>
  fldK ((some a_6)) 33 (fun (a_7 : Addr) =>
  storeK h ((some a_7)) (.bool true) (fun h =>
  R (.int .i64 0) h))))))))
  (fun J_8 =>
  joinW (fun (s_9 : Bool) h =>
  if s_9 = true then
  R (.int .i64 12) h
  else
  derefK d0 (fun (a_10 : Addr) =>
  fldK ((some a_10)) 133 (fun (a_11 : Addr) =>
  loadK (.int .i64) h ((some a_11)) (fun (v12 : Int) =>
  if (v12 == 4) = true then
  if (v12 == 4) = true then
  R (.int .i64 18) h
  else
  J_8 () h
  else
  derefK d0 (fun (a_13 : Addr) =>
  fldK ((some a_13)) 133 (fun (a_14 : Addr) =>
  loadK (.int .i64) h ((some a_14)) (fun (v15 : Int) =>
  if (v15 == 3) = true then
  R (.int .i64 18) h
  else
  J_8 () h)))))))
  (fun J_16 =>
  derefK d0 (fun (a_17 : Addr) =>
  fldK ((some a_17)) 133 (fun (a_18 : Addr) =>
  loadK (.int .i64) h ((some a_18)) (fun (v19 : Int) =>
  if (v19 == 4) = true then
  derefK d0 (fun (a_20 : Addr) =>
  fldK ((some a_20)) 99 (fun (a_21 : Addr) =>
  fldK ((some a_21)) 33 (fun (a_22 : Addr) =>
  loadK .bool h ((some a_22)) (fun (v23 : Bool) =>
  J_16 v23 h))))
  else
  J_16 false h))))))
def draw_Draw_left.ann : Ann := (.seq .leaf (.join [] (.block (.join [(5, .bool)] .leaf (.cond (.seq .leaf .leaf) (.seq (.seq .leaf (.cond .leaf .leaf)) (.cond (.seq .leaf .leaf) .leaf))))) (.seq .leaf (.seq .leaf .leaf))))
theorem draw_Draw_left.eq (d0 : Option Addr) (x1 : Array Value) (R : Value → Heap → Prop) (h : Heap) : draw_Draw_left.body d0 x1 R h = evFn Try.prog Try.f33 draw_Draw_left.ann [.pointer d0, .agg x1] R h := by kernel_rfl
theorem draw_Draw_left.calls {d0 : Option Addr} {x1 : Array Value} {R : Value → Heap → Prop} {h : Heap} (H : draw_Draw_left.body d0 x1 R h) : HC Try.prog F.draw_Draw_left #[.pointer d0, .agg x1] R h :=
  evFn_sound mixed Try.func33 (by kernel_rfl) (draw_Draw_left.eq d0 x1 R h ▸ H)

/-! zugzwang/commit.some -/
def commit_some.body (m0 : Option Addr) (is1 : Bool) (nonce2 : Array Value) (rows3 : Sl) (R : Value → Heap → Prop) (h : Heap) : Prop :=
  newK h nonce2 T.api_Tag (fun (nonce_1 : Option Addr) h =>
  newK h (zerosOf Try.prog T.api_Tag) T.api_Tag (fun (t_2 : Option Addr) h =>
  callK Try.prog .ptr F.tags_Maker_Copy #[.pointer m0] (fun (v3 : Option Addr) h =>
  if v3.isNone = true then
  loadAggK (sizeOfT Try.prog T.api_Tag) h t_2 (fun (v4 : Array Value) =>
  storeAggK (sizeOfT Try.prog T.api_Tag) h t_2 v4 (fun h =>
  quietK Try.prog .agg (Instr.loadAt T.api_Tag (.pointer t_2)) (fun r5 =>
  R (.tuple #[.agg r5, .int .i64 1]) h) h))
  else
  if (!is1) = true then
  loadAggK (sizeOfT Try.prog T.api_Tag) h t_2 (fun (v6 : Array Value) =>
  storeAggK (sizeOfT Try.prog T.api_Tag) h t_2 v6 (fun h =>
  quietK Try.prog .agg (Instr.loadAt T.api_Tag (.pointer t_2)) (fun r7 =>
  R (.tuple #[.agg r7, .int .i64 2]) h) h))
  else
  loadAggK (sizeOfT Try.prog T.api_Tag) h nonce_1 (fun (v8 : Array Value) =>
  callK Try.prog (Kd.pair .agg (.int .i64)) F.commit_Cover #[.pointer m0, .agg v8, .slice rows3.a rows3.n rows3.c] (fun (v9 : Array Value × Int) h =>
  storeAggK (sizeOfT Try.prog T.api_Tag) h t_2 v9.1 (fun h =>
  quietK Try.prog .agg (Instr.loadAt T.api_Tag (.pointer t_2)) (fun r10 =>
  R (.tuple #[.agg r10, .int .i64 v9.2]) h) h)) h)) h))
def commit_some.ann : Ann := (.seq .leaf (.seq (.block (.seq .leaf (.cond (.seq .leaf .leaf) (.seq .leaf (.cond (.seq .leaf .leaf) .leaf))))) (.seq .leaf .leaf)))
theorem commit_some.eq (m0 : Option Addr) (is1 : Bool) (nonce2 : Array Value) (rows3 : Sl) (R : Value → Heap → Prop) (h : Heap) : commit_some.body m0 is1 nonce2 rows3 R h = evFn Try.prog Try.f29 commit_some.ann [.pointer m0, .bool is1, .agg nonce2, .slice rows3.a rows3.n rows3.c] R h := by kernel_rfl
theorem commit_some.calls {m0 : Option Addr} {is1 : Bool} {nonce2 : Array Value} {rows3 : Sl} {R : Value → Heap → Prop} {h : Heap} (H : commit_some.body m0 is1 nonce2 rows3 R h) : HC Try.prog F.commit_some #[.pointer m0, .bool is1, .agg nonce2, .slice rows3.a rows3.n rows3.c] R h :=
  evFn_sound mixed Try.func29 (by kernel_rfl) (commit_some.eq m0 is1 nonce2 rows3 R h ▸ H)

/-! (*zugzwang/tags.Maker).Copy -/
def tags_Maker_Copy.body (m0 : Option Addr) (R : Value → Heap → Prop) (h : Heap) : Prop :=
  callK Try.prog .bool F.tags_Maker_there #[.pointer m0] (fun (v1 : Bool) h =>
  if (!v1) = true then
  R (.pointer none) h
  else
  derefK m0 (fun (a_2 : Addr) =>
  fldK ((some a_2)) 0 (fun (a_3 : Addr) =>
  fldK ((some a_3)) 0 (fun (a_4 : Addr) =>
  derefK m0 (fun (a_5 : Addr) =>
  fldK ((some a_5)) 1 (fun (a_6 : Addr) =>
  derefK m0 (fun (a_7 : Addr) =>
  fldK ((some a_7)) 2 (fun (a_8 : Addr) =>
  loadK .map h ((some a_4)) (fun (v9 : Option Nat) =>
  loadK .bool h ((some a_6)) (fun (v10 : Bool) =>
  loadK .slice h ((some a_8)) (fun (v11 : Sl) =>
  callK Try.prog .map F.maps_Clone_map_tags_thing_int_tags_thing_int #[(.map v9)] (fun (v12 : Option Nat) h =>
  stillK .slice h ((some a_8)) v11 ∧
  stillK .bool h ((some a_6)) v10 ∧
  buildK Try.prog (Instr.build T.tags_book #[(0, (.map v12))]) (fun (v13 : Array Value) =>
  callK Try.prog .slice F.slices_Clone_byte_byte #[.slice v11.a v11.n v11.c] (fun (v14 : Sl) h =>
  stillK .bool h ((some a_6)) v10 ∧
  buildK Try.prog (Instr.build T.tags_Maker #[(0, (.agg v13)), (1, (.bool v10)), (2, (.slice v14.a v14.n v14.c))]) (fun (v15 : Array Value) =>
  newK h v15 T.tags_Maker (fun (v16 : Option Addr) h =>
  R (.pointer v16) h))) h)) h))))))))))) h
def tags_Maker_Copy.ann : Ann := (.seq .leaf (.seq (.seq .leaf (.cond (.seq .leaf .leaf) .leaf)) (.seq (.any (.loc 0 (.loc 1 (.loc 2 (.loc 3 (.loc 7 (.loc 8 (.loc 9 (.loc 11 (.loc 12 (.loc 13 (.st 4 491616 (.st 10 458752 (.st 14 491520 (.last 5 (.loc 6 (.last 15 (.loc 16 (.last 17 (.loc 18 .done)))))))))))))))))))) .leaf)))
theorem tags_Maker_Copy.eq (m0 : Option Addr) (R : Value → Heap → Prop) (h : Heap) : tags_Maker_Copy.body m0 R h = evFn Try.prog Try.f40 tags_Maker_Copy.ann [.pointer m0] R h := by kernel_rfl
theorem tags_Maker_Copy.calls {m0 : Option Addr} {R : Value → Heap → Prop} {h : Heap} (H : tags_Maker_Copy.body m0 R h) : HC Try.prog F.tags_Maker_Copy #[.pointer m0] R h :=
  evFn_sound mixed Try.func40 (by kernel_rfl) (tags_Maker_Copy.eq m0 R h ▸ H)

/-! (zugzwang/commit.text).rows -/
def commit_text_rows.body (t0 : Array Value) (nonce1 : Array Value) (rows2 : Sl) (R : Value → Heap → Prop) (h : Heap) : Prop :=
  newK h t0 T.commit_text (fun (t_1 : Option Addr) (h : Heap) =>
  newK h nonce1 T.api_Tag (fun (nonce_2 : Option Addr) (h : Heap) =>
  fldK t_1 0 (fun (a_3 : Addr) =>
  loadK .ptr h ((some a_3)) (fun (v_4 : Option Addr) =>
  callK Try.prog (.int .i64) F.codec_Writer_Run #[(.pointer v_4), (.slice rows2.a rows2.n rows2.c)] (fun (v_5 : Int) (h : Heap) =>
  fldK t_1 0 (fun (a_6 : Addr) =>
  loadK .ptr h ((some a_6)) (fun (v_7 : Option Addr) =>
  loadAggK (sizeOfT Try.prog T.api_Tag) h nonce_2 (fun (v_8 : Array Value) =>
  opK Try.prog .slice (Instr.buildSlice T.sl_api_Tag 1 #[(0, (.agg v_8))]) (fun (v_9 : Sl) (h : Heap) =>
  callK Try.prog (.int .i64) F.codec_Writer_Tag #[(.pointer v_7), (.slice v_9.a v_9.n v_9.c)] (fun (v_10 : Int) (h : Heap) =>
  fldK t_1 0 (fun (a_11 : Addr) =>
  loadK .ptr h ((some a_11)) (fun (v_12 : Option Addr) =>
  callK Try.prog (Kd.pair .slice (.int .i64)) F.codec_Writer_Out #[(.pointer v_12)] (fun (v_13 : Sl × Int) (h : Heap) =>
  R (.tuple #[(.slice v_13.1.a v_13.1.n v_13.1.c), (.int .i64 v_13.2)]) h) h))) h) h)))) h))))
def commit_text_rows.ann : Ann := (.seq .leaf (.seq .leaf (.seq .leaf (.seq .leaf .leaf))))
theorem commit_text_rows.eq (t0 : Array Value) (nonce1 : Array Value) (rows2 : Sl) (R : Value → Heap → Prop) (h : Heap) : commit_text_rows.body t0 nonce1 rows2 R h = evFn Try.prog Try.f51 commit_text_rows.ann [(.agg t0), (.agg nonce1), (.slice rows2.a rows2.n rows2.c)] R h := by kernel_rfl
theorem commit_text_rows.calls {t0 : Array Value} {nonce1 : Array Value} {rows2 : Sl} {R : Value → Heap → Prop} {h : Heap} (H : commit_text_rows.body t0 nonce1 rows2 R h) : HC Try.prog F.commit_text_rows #[(.agg t0), (.agg nonce1), (.slice rows2.a rows2.n rows2.c)] R h :=
  evFn_sound mixed Try.func51 (by kernel_rfl) (commit_text_rows.eq t0 nonce1 rows2 R h ▸ H)

/-! (*zugzwang/digest.Hasher).ended -/
def digest_Hasher_ended.body (h0 : Option Addr) (R : Value → Heap → Prop) (h : Heap) : Prop :=
  newK h (zerosOf Try.prog T.api_Tag) T.api_Tag (fun (t_1 : Option Addr) h =>
  derefK h0 (fun (a_2 : Addr) =>
  fldK ((some a_2)) 9 (fun (a_3 : Addr) =>
  loadK (.int .i64) h ((some a_3)) (fun (v4 : Int) =>
  callK Try.prog .slice F.digest_fill #[.int .i64 v4] (fun (v5 : Sl) h =>
  newSlK h 1 #[.slice v5.a v5.n v5.c] T.sl_uint8 (fun v6 h =>
  callK Try.prog .unit F.digest_Hasher_all #[.pointer h0, .slice v6.a v6.n v6.c] (fun (v7 : Unit) h =>
  sliceArrK t_1 32 none none none (sizeOfT Try.prog T.uint8) (fun (v8 : Sl) =>
  derefK h0 (fun (a_9 : Addr) =>
  fldK ((some a_9)) 0 (fun (a_10 : Addr) =>
  sliceArrK ((some a_10)) 8 none none none (sizeOfT Try.prog T.uint32) (fun (v11 : Sl) =>
  callK Try.prog .slice F.bits_Bytes #[.slice v11.a v11.n v11.c] (fun (v12 : Sl) h =>
  opK Try.prog (.int .i64) (Builtin.copy_ #[T.sl_uint8, T.sl_uint8] T.int #[.slice v8.a v8.n v8.c, .slice v12.a v12.n v12.c]) (fun (v13 : Int) h =>
  loadAggK (sizeOfT Try.prog T.api_Tag) h t_1 (fun (v14 : Array Value) =>
  storeAggK (sizeOfT Try.prog T.api_Tag) h t_1 v14 (fun h =>
  quietK Try.prog .agg (Instr.loadAt T.api_Tag (.pointer t_1)) (fun r15 =>
  R (.agg r15) h) h))) h) h))))) h)) h))))
def digest_Hasher_ended.ann : Ann := (.seq .leaf (.seq .leaf (.seq (.any (.loc 0 (.loc 1 (.loc 2 (.loc 3 (.loc 4 (.last 5 (.last 6 .done)))))))) (.seq .leaf .leaf))))
theorem digest_Hasher_ended.eq (h0 : Option Addr) (R : Value → Heap → Prop) (h : Heap) : digest_Hasher_ended.body h0 R h = evFn Try.prog Try.f38 digest_Hasher_ended.ann [.pointer h0] R h := by kernel_rfl
theorem digest_Hasher_ended.calls {h0 : Option Addr} {R : Value → Heap → Prop} {h : Heap} (H : digest_Hasher_ended.body h0 R h) : HC Try.prog F.digest_Hasher_ended #[.pointer h0] R h :=
  evFn_sound mixed Try.func38 (by kernel_rfl) (digest_Hasher_ended.eq h0 R h ▸ H)

/-! zugzwang/commit.OpenCoin -/
def commit_OpenCoin.body (m0 : Option Addr) (t1 : Array Value) (game2 : Array Value) (player3 : Int) (side4 : Int) (nonce5 : Array Value) (R : Value → Heap → Prop) (h : Heap) : Prop :=
  newK h #[(.pointer m0)] T.p_tags_Maker (fun (m_1 : Option Addr) (h : Heap) =>
  newK h t1 T.api_Tag (fun (t_2 : Option Addr) (h : Heap) =>
  newK h game2 T.api_Tag (fun (game_3 : Option Addr) (h : Heap) =>
  newK h #[(.int .i64 player3)] T.int (fun (player_4 : Option Addr) (h : Heap) =>
  newK h #[(.int .i64 side4)] T.int (fun (side_5 : Option Addr) (h : Heap) =>
  newK h nonce5 T.api_Tag (fun (nonce_6 : Option Addr) (h : Heap) =>
  loadAggK (sizeOfT Try.prog T.api_Tag) h t_2 (fun (v_7 : Array Value) =>
  callK Try.prog (.int .i64) F.commit_opened #[(.agg v_7), ((Value.func (.func F.commit_OpenCoin_1) #[] #[(.pointer m_1), (.pointer game_3), (.pointer player_4), (.pointer side_5), (.pointer nonce_6)]))] (fun (v_8 : Int) (h : Heap) =>
  R (.int .i64 v_8) h) h)))))))
def commit_OpenCoin.ann : Ann := (.seq .leaf (.seq .leaf .leaf))
theorem commit_OpenCoin.eq (m0 : Option Addr) (t1 : Array Value) (game2 : Array Value) (player3 : Int) (side4 : Int) (nonce5 : Array Value) (R : Value → Heap → Prop) (h : Heap) : commit_OpenCoin.body m0 t1 game2 player3 side4 nonce5 R h = evFn Try.prog Try.f42 commit_OpenCoin.ann [(.pointer m0), (.agg t1), (.agg game2), (.int .i64 player3), (.int .i64 side4), (.agg nonce5)] R h := by kernel_rfl
theorem commit_OpenCoin.calls {m0 : Option Addr} {t1 : Array Value} {game2 : Array Value} {player3 : Int} {side4 : Int} {nonce5 : Array Value} {R : Value → Heap → Prop} {h : Heap} (H : commit_OpenCoin.body m0 t1 game2 player3 side4 nonce5 R h) : HC Try.prog F.commit_OpenCoin #[(.pointer m0), (.agg t1), (.agg game2), (.int .i64 player3), (.int .i64 side4), (.agg nonce5)] R h :=
  evFn_sound mixed Try.func42 (by kernel_rfl) (commit_OpenCoin.eq m0 t1 game2 player3 side4 nonce5 R h ▸ H)

/-! (*zugzwang/codec.Writer).Out -/
def codec_Writer_Out.body (w0 : Option Addr) (R : Value → Heap → Prop) (h : Heap) : Prop :=
  joinW (fun (s_1 : Bool) (h : Heap) =>
  if s_1 = true then
  R (.tuple #[(.slice none 0 0), (.int .i64 1)]) h
  else
  derefK w0 (fun (a_2 : Addr) =>
  fldK ((some a_2)) 0 (fun (a_3 : Addr) =>
  callK Try.prog .bool F.codec_state_sound #[(.pointer ((some a_3)))] (fun (v_4 : Bool) (h : Heap) =>
  if (!v_4) = true then
  derefK w0 (fun (a_5 : Addr) =>
  fldK ((some a_5)) 0 (fun (a_6 : Addr) =>
  fldK ((some a_6)) 1 (fun (a_7 : Addr) =>
  loadK (.int .i64) h ((some a_7)) (fun (v_8 : Int) =>
  R (.tuple #[(.slice none 0 0), (.int .i64 v_8)]) h))))
  else
  derefK w0 (fun (a_9 : Addr) =>
  fldK ((some a_9)) 2 (fun (a_10 : Addr) =>
  loadK .slice h ((some a_10)) (fun (v_11 : Sl) =>
  callK Try.prog .slice F.slices_Clone_byte_byte #[(.slice v_11.a v_11.n v_11.c)] (fun (v_12 : Sl) (h : Heap) =>
  R (.tuple #[(.slice v_12.a v_12.n v_12.c), (.int .i64 0)]) h) h)))) h)))
  (fun J_13 =>
  if w0.isNone = true then
  J_13 true h
  else
  derefK w0 (fun (a_14 : Addr) =>
  fldK ((some a_14)) 0 (fun (a_15 : Addr) =>
  fldK ((some a_15)) 0 (fun (a_16 : Addr) =>
  loadK .bool h ((some a_16)) (fun (v_17 : Bool) =>
  J_13 (!v_17) h)))))
def codec_Writer_Out.ann : Ann := (.seq .leaf (.seq (.block (.join [(4, .bool)] .leaf (.cond (.seq .leaf .leaf) (.seq .leaf (.cond (.seq .leaf .leaf) .leaf))))) (.seq .leaf .leaf)))
theorem codec_Writer_Out.eq (w0 : Option Addr) (R : Value → Heap → Prop) (h : Heap) : codec_Writer_Out.body w0 R h = evFn Try.prog Try.f67 codec_Writer_Out.ann [(.pointer w0)] R h := by kernel_rfl
theorem codec_Writer_Out.calls {w0 : Option Addr} {R : Value → Heap → Prop} {h : Heap} (H : codec_Writer_Out.body w0 R h) : HC Try.prog F.codec_Writer_Out #[(.pointer w0)] R h :=
  evFn_sound mixed Try.func67 (by kernel_rfl) (codec_Writer_Out.eq w0 R h ▸ H)

/-! (*zugzwang/draw.coin).open -/
def draw_coin_open.body (c0 : Option Addr) (R : Value → Heap → Prop) (h : Heap) : Prop :=
  newK h (zerosOf Try.prog T.api_Msg) T.api_Msg (fun (v_1 : Option Addr) (h : Heap) =>
  derefK c0 (fun (a_2 : Addr) =>
  fldK ((some a_2)) 1 (fun (a_3 : Addr) =>
  derefK c0 (fun (a_4 : Addr) =>
  fldK ((some a_4)) 33 (fun (a_5 : Addr) =>
  derefK c0 (fun (a_6 : Addr) =>
  fldK ((some a_6)) 34 (fun (a_7 : Addr) =>
  derefK c0 (fun (a_8 : Addr) =>
  fldK ((some a_8)) 35 (fun (a_9 : Addr) =>
  loadAggK (sizeOfT Try.prog T.api_Tag) h ((some a_3)) (fun (v_10 : Array Value) =>
  loadK (.int .i64) h ((some a_5)) (fun (v_11 : Int) =>
  loadK (.int .i64) h ((some a_7)) (fun (v_12 : Int) =>
  loadAggK (sizeOfT Try.prog T.api_Tag) h ((some a_9)) (fun (v_13 : Array Value) =>
  buildK Try.prog (Instr.build T.api_Msg #[(0, (.int .i64 2)), (1, (.agg v_10)), (2, (.int .i64 v_11)), (4, (.int .i64 v_12)), (5, (.agg v_13))]) (fun (v_14 : Array Value) =>
  storeAggK (sizeOfT Try.prog T.api_Msg) h v_1 v_14 (fun (h : Heap) =>
  quietK Try.prog .agg (Instr.loadAt T.api_Msg (.pointer v_1)) (fun (r_15 : Array Value) =>
  R (.agg r_15) h) h)))))))))))))))
def draw_coin_open.ann : Ann := (.seq .leaf (.seq (.any (.loc 0 (.loc 1 (.loc 2 (.loc 4 (.loc 5 (.loc 6 (.loc 8 (.loc 9 (.loc 10 (.loc 12 (.loc 13 (.loc 14 (.st 3 196608 (.st 7 196608 (.st 11 196608 (.st 15 196608 (.loc 16 (.last 17 .done))))))))))))))))))) .leaf))
theorem draw_coin_open.eq (c0 : Option Addr) (R : Value → Heap → Prop) (h : Heap) : draw_coin_open.body c0 R h = evFn Try.prog Try.f24 draw_coin_open.ann [(.pointer c0)] R h := by kernel_rfl
theorem draw_coin_open.calls {c0 : Option Addr} {R : Value → Heap → Prop} {h : Heap} (H : draw_coin_open.body c0 R h) : HC Try.prog F.draw_coin_open #[(.pointer c0)] R h :=
  evFn_sound mixed Try.func24 (by kernel_rfl) (draw_coin_open.eq c0 R h ▸ H)

/-! zugzwang/commit.OpenCoin$1 -/
def commit_OpenCoin_1.body (x0 : Option Addr) (x1 : Option Addr) (x2 : Option Addr) (x3 : Option Addr) (x4 : Option Addr) (R : Value → Heap → Prop) (h : Heap) : Prop :=
  newK h (zerosOf Try.prog T.api_Tag) T.api_Tag (fun (v_1 : Option Addr) (h : Heap) =>
  loadK .ptr h x0 (fun (v_2 : Option Addr) =>
  loadAggK (sizeOfT Try.prog T.api_Tag) h x1 (fun (v_3 : Array Value) =>
  loadK (.int .i64) h x2 (fun (v_4 : Int) =>
  loadK (.int .i64) h x3 (fun (v_5 : Int) =>
  loadAggK (sizeOfT Try.prog T.api_Tag) h x4 (fun (v_6 : Array Value) =>
  callK Try.prog (Kd.pair .agg (.int .i64)) F.commit_Coin #[(.pointer v_2), (.agg v_3), (.int .i64 v_4), (.int .i64 v_5), (.agg v_6)] (fun (v_7 : Array Value × Int) (h : Heap) =>
  storeAggK (sizeOfT Try.prog T.api_Tag) h v_1 v_7.1 (fun (h : Heap) =>
  quietK Try.prog .agg (Instr.loadAt T.api_Tag (.pointer v_1)) (fun (r_8 : Array Value) =>
  R (.tuple #[(.agg r_8), (.int .i64 v_7.2)]) h) h)) h))))))
def commit_OpenCoin_1.ann : Ann := (.seq .leaf (.seq .leaf .leaf))
theorem commit_OpenCoin_1.eq (x0 : Option Addr) (x1 : Option Addr) (x2 : Option Addr) (x3 : Option Addr) (x4 : Option Addr) (R : Value → Heap → Prop) (h : Heap) : commit_OpenCoin_1.body x0 x1 x2 x3 x4 R h = evFn Try.prog Try.f54 commit_OpenCoin_1.ann [(.pointer x0), (.pointer x1), (.pointer x2), (.pointer x3), (.pointer x4)] R h := by kernel_rfl
theorem commit_OpenCoin_1.calls {x0 : Option Addr} {x1 : Option Addr} {x2 : Option Addr} {x3 : Option Addr} {x4 : Option Addr} {R : Value → Heap → Prop} {h : Heap} (H : commit_OpenCoin_1.body x0 x1 x2 x3 x4 R h) : HC Try.prog F.commit_OpenCoin_1 #[(.pointer x0), (.pointer x1), (.pointer x2), (.pointer x3), (.pointer x4)] R h :=
  evFn_sound mixed Try.func54 (by kernel_rfl) (commit_OpenCoin_1.eq x0 x1 x2 x3 x4 R h ▸ H)

/-! slices.Grow[[]byte,byte] -/
def slices_Grow_byte_byte.body (s0 : Sl) (n1 : Int) (R : Value → Heap → Prop) (h : Heap) : Prop :=
  if (decide (n1 < 0)) = true then
  opK Try.prog .any (Instr.makeInterface T.string (.string ((⟨#[99, 97, 110, 110, 111, 116, 32, 98, 101, 32, 110, 101, 103, 97, 116, 105, 118, 101]⟩ : ByteArray)))) (fun (v_1 : Value) (h : Heap) =>
  False) h
  else
  if (decide ((IntKind.i64.wrap (n1 - (IntKind.i64.wrap (((s0.c : Int)) - ((s0.n : Int)))))) > 0)) = true then
  sliceK s0 none (some ((s0.c : Int))) none (sizeOfT Try.prog T.uint8) (fun (v_2 : Sl) =>
  opK Try.prog .slice (Builtin.append_ #[T.sl_uint8, T.int] T.sl_uint8 #[(.slice v_2.a v_2.n v_2.c), (.int .i64 (IntKind.i64.wrap (n1 - (IntKind.i64.wrap (((s0.c : Int)) - ((s0.n : Int)))))))]) (fun (v_3 : Sl) (h : Heap) =>
  sliceK v_3 none (some ((s0.n : Int))) none (sizeOfT Try.prog T.uint8) (fun (v_4 : Sl) =>
  R (.slice v_4.a v_4.n v_4.c) h)) h)
  else
  R (.slice s0.a s0.n s0.c) h
def slices_Grow_byte_byte.ann : Ann := (.seq .leaf (.seq (.seq .leaf (.cond .leaf .leaf)) (.seq (.seq .leaf (.seq .leaf (.cond .leaf .leaf))) (.seq .leaf .leaf))))
theorem slices_Grow_byte_byte.eq (s0 : Sl) (n1 : Int) (R : Value → Heap → Prop) (h : Heap) : slices_Grow_byte_byte.body s0 n1 R h = evFn Try.prog Try.f63 slices_Grow_byte_byte.ann [(.slice s0.a s0.n s0.c), (.int .i64 n1)] R h := by kernel_rfl
theorem slices_Grow_byte_byte.calls {s0 : Sl} {n1 : Int} {R : Value → Heap → Prop} {h : Heap} (H : slices_Grow_byte_byte.body s0 n1 R h) : HC Try.prog F.slices_Grow_byte_byte #[(.slice s0.a s0.n s0.c), (.int .i64 n1)] R h :=
  evFn_sound mixed Try.func63 (by kernel_rfl) (slices_Grow_byte_byte.eq s0 n1 R h ▸ H)

/-! (*zugzwang/draw.coin).hidden -/
def draw_coin_hidden.body (c0 : Option Addr) (R : Value → Heap → Prop) (h : Heap) : Prop :=
  newK h (zerosOf Try.prog T.api_Msg) T.api_Msg (fun (v_1 : Option Addr) (h : Heap) =>
  derefK c0 (fun (a_2 : Addr) =>
  fldK ((some a_2)) 1 (fun (a_3 : Addr) =>
  derefK c0 (fun (a_4 : Addr) =>
  fldK ((some a_4)) 33 (fun (a_5 : Addr) =>
  derefK c0 (fun (a_6 : Addr) =>
  fldK ((some a_6)) 67 (fun (a_7 : Addr) =>
  loadAggK (sizeOfT Try.prog T.api_Tag) h ((some a_3)) (fun (v_8 : Array Value) =>
  loadK (.int .i64) h ((some a_5)) (fun (v_9 : Int) =>
  loadAggK (sizeOfT Try.prog T.api_Tag) h ((some a_7)) (fun (v_10 : Array Value) =>
  buildK Try.prog (Instr.build T.api_Msg #[(0, (.int .i64 1)), (1, (.agg v_8)), (2, (.int .i64 v_9)), (3, (.agg v_10))]) (fun (v_11 : Array Value) =>
  storeAggK (sizeOfT Try.prog T.api_Msg) h v_1 v_11 (fun (h : Heap) =>
  quietK Try.prog .agg (Instr.loadAt T.api_Msg (.pointer v_1)) (fun (r_12 : Array Value) =>
  R (.agg r_12) h) h))))))))))))
def draw_coin_hidden.ann : Ann := (.seq .leaf (.seq (.any (.loc 0 (.loc 1 (.loc 2 (.loc 4 (.loc 5 (.loc 6 (.loc 8 (.loc 9 (.loc 10 (.st 3 12288 (.st 7 12288 (.st 11 12288 (.loc 12 (.last 13 .done))))))))))))))) .leaf))
theorem draw_coin_hidden.eq (c0 : Option Addr) (R : Value → Heap → Prop) (h : Heap) : draw_coin_hidden.body c0 R h = evFn Try.prog Try.f23 draw_coin_hidden.ann [(.pointer c0)] R h := by kernel_rfl
theorem draw_coin_hidden.calls {c0 : Option Addr} {R : Value → Heap → Prop} {h : Heap} (H : draw_coin_hidden.body c0 R h) : HC Try.prog F.draw_coin_hidden #[(.pointer c0)] R h :=
  evFn_sound mixed Try.func23 (by kernel_rfl) (draw_coin_hidden.eq c0 R h ▸ H)

/-! zugzwang/msg.move -/
def msg_move.body (m0 : Array Value) (R : Value → Heap → Prop) (h : Heap) : Prop :=
  newK h m0 T.api_Move (fun (m_1 : Option Addr) (h : Heap) =>
  fldK m_1 0 (fun (a_2 : Addr) =>
  loadK (.int .i64) h ((some a_2)) (fun (v_3 : Int) =>
  callV Try.prog .bool ((Value.func (.func F.msg_move_1) #[] #[])) #[(.int .i64 v_3)] (fun (v_4 : Bool) (h : Heap) =>
  if v_4 = true then
  fldK m_1 1 (fun (a_5 : Addr) =>
  loadK (.int .i64) h ((some a_5)) (fun (v_6 : Int) =>
  callV Try.prog .bool ((Value.func (.func F.msg_move_1) #[] #[])) #[(.int .i64 v_6)] (fun (v_7 : Bool) (h : Heap) =>
  if v_7 = true then
  fldK m_1 2 (fun (a_8 : Addr) =>
  loadK (.int .i64) h ((some a_8)) (fun (v_9 : Int) =>
  if (v_9 == 0) = true then
  R (.bool true) h
  else
  fldK m_1 2 (fun (a_10 : Addr) =>
  loadK (.int .i64) h ((some a_10)) (fun (v_11 : Int) =>
  if (decide (v_11 ≥ 2)) = true then
  fldK m_1 2 (fun (a_12 : Addr) =>
  loadK (.int .i64) h ((some a_12)) (fun (v_13 : Int) =>
  R (.bool (decide (v_13 ≤ 5))) h))
  else
  R (.bool false) h))))
  else
  R (.bool false) h) h))
  else
  R (.bool false) h) h)))
def msg_move.ann : Ann := (.seq .leaf (.seq .leaf (.seq .leaf .leaf)))
theorem msg_move.eq (m0 : Array Value) (R : Value → Heap → Prop) (h : Heap) : msg_move.body m0 R h = evFn Try.prog Try.f68 msg_move.ann [(.agg m0)] R h := by kernel_rfl
theorem msg_move.calls {m0 : Array Value} {R : Value → Heap → Prop} {h : Heap} (H : msg_move.body m0 R h) : HC Try.prog F.msg_move #[(.agg m0)] R h :=
  evFn_sound mixed Try.func68 (by kernel_rfl) (msg_move.eq m0 R h ▸ H)

/-! (*zugzwang/draw.Draw).Abort -/
def draw_Draw_Abort.body (d0 : Option Addr) (R : Value → Heap → Prop) (h : Heap) : Prop :=
  joinW (fun (s_1 : Unit) (h : Heap) =>
  derefK d0 (fun (a_2 : Addr) =>
  fldK ((some a_2)) 133 (fun (a_3 : Addr) =>
  storeK h ((some a_3)) (.int .i64 4) (fun (h : Heap) =>
  R (.int .i64 0) h))))
  (fun J_4 =>
  callK Try.prog .bool F.draw_Draw_made #[(.pointer d0)] (fun (v_5 : Bool) (h : Heap) =>
  if (!v_5) = true then
  R (.int .i64 1) h
  else
  derefK d0 (fun (a_6 : Addr) =>
  fldK ((some a_6)) 133 (fun (a_7 : Addr) =>
  loadK (.int .i64) h ((some a_7)) (fun (v_8 : Int) =>
  if (v_8 == 3) = true then
  if (v_8 == 3) = true then
  R (.int .i64 18) h
  else
  J_4 () h
  else
  derefK d0 (fun (a_9 : Addr) =>
  fldK ((some a_9)) 133 (fun (a_10 : Addr) =>
  loadK (.int .i64) h ((some a_10)) (fun (v_11 : Int) =>
  if (v_11 == 4) = true then
  R (.int .i64 18) h
  else
  J_4 () h))))))) h)
def draw_Draw_Abort.ann : Ann := (.seq .leaf (.join [] (.block (.seq .leaf (.cond (.seq .leaf .leaf) (.seq (.seq .leaf (.cond .leaf .leaf)) (.cond (.seq .leaf .leaf) .leaf))))) (.seq .leaf (.seq .leaf .leaf))))
theorem draw_Draw_Abort.eq (d0 : Option Addr) (R : Value → Heap → Prop) (h : Heap) : draw_Draw_Abort.body d0 R h = evFn Try.prog Try.f16 draw_Draw_Abort.ann [(.pointer d0)] R h := by kernel_rfl
theorem draw_Draw_Abort.calls {d0 : Option Addr} {R : Value → Heap → Prop} {h : Heap} (H : draw_Draw_Abort.body d0 R h) : HC Try.prog F.draw_Draw_Abort #[(.pointer d0)] R h :=
  evFn_sound mixed Try.func16 (by kernel_rfl) (draw_Draw_Abort.eq d0 R h ▸ H)

/-! math/bits.RotateLeft32 -/
def math_bits_RotateLeft32.body (x0 : Int) (k1 : Int) (R : Value → Heap → Prop) (h : Heap) : Prop :=
  shiftK (IntKind.u64.wrap (BitVec.ofInt (IntKind.bits .u64) (IntKind.u64.wrap k1) &&& BitVec.ofInt (IntKind.bits .u64) 31).toNat)
  (shiftK (IntKind.u64.wrap (32 - (IntKind.u64.wrap (BitVec.ofInt (IntKind.bits .u64) (IntKind.u64.wrap k1) &&& BitVec.ofInt (IntKind.bits .u64) 31).toNat)))
  (R (.int .u32 (IntKind.u32.wrap (BitVec.ofInt (IntKind.bits .u32) (IntKind.u32.wrap (x0 * 2 ^ min (Int.toNat (IntKind.u64.wrap (BitVec.ofInt (IntKind.bits .u64) (IntKind.u64.wrap k1) &&& BitVec.ofInt (IntKind.bits .u64) 31).toNat)) (IntKind.bits .u32))) ||| BitVec.ofInt (IntKind.bits .u32) (Int.fdiv x0 (2 ^ min (Int.toNat (IntKind.u64.wrap (32 - (IntKind.u64.wrap (BitVec.ofInt (IntKind.bits .u64) (IntKind.u64.wrap k1) &&& BitVec.ofInt (IntKind.bits .u64) 31).toNat)))) (IntKind.bits .u32)))).toNat)) h))
def math_bits_RotateLeft32.ann : Ann := (.seq .leaf (.seq .leaf (.seq .leaf .leaf)))
theorem math_bits_RotateLeft32.eq (x0 : Int) (k1 : Int) (R : Value → Heap → Prop) (h : Heap) : math_bits_RotateLeft32.body x0 k1 R h = evFn Try.prog Try.f79 math_bits_RotateLeft32.ann [(.int .u32 x0), (.int .i64 k1)] R h := by kernel_rfl
theorem math_bits_RotateLeft32.calls {x0 : Int} {k1 : Int} {R : Value → Heap → Prop} {h : Heap} (H : math_bits_RotateLeft32.body x0 k1 R h) : HC Try.prog F.math_bits_RotateLeft32 #[(.int .u32 x0), (.int .i64 k1)] R h :=
  evFn_sound mixed Try.func79 (by kernel_rfl) (math_bits_RotateLeft32.eq x0 k1 R h ▸ H)

/-! zugzwang/digest.fill -/
def digest_fill.body (n0 : Int) (R : Value → Heap → Prop) (h : Heap) : Prop :=
  divK 64
  (divK 64
  (opK Try.prog .slice (Instr.makeSlice T.sl_uint8 (.int .i64 (IntKind.i64.wrap (1 + (Int.tmod (IntKind.i64.wrap (119 - (Int.tmod n0 64))) 64)))) (.int .i64 128)) (fun (v_1 : Sl) (h : Heap) =>
  idxK v_1 0 (sizeOfT Try.prog T.uint8) (fun (a_2 : Addr) =>
  storeK h ((some a_2)) (.int .u8 128) (fun (h : Heap) =>
  shiftK 32
  (newSlK h 2 #[(.int .u32 (IntKind.u32.wrap (Int.fdiv (IntKind.u64.wrap (IntKind.i64.wrap (8 * n0))) (2 ^ min (Int.toNat 32) (IntKind.bits .u64))))), (.int .u32 (IntKind.u32.wrap (IntKind.u64.wrap (IntKind.i64.wrap (8 * n0)))))] T.uint32 (fun (v_3 : Sl) (h : Heap) =>
  callK Try.prog .slice F.bits_Bytes #[(.slice v_3.a v_3.n v_3.c)] (fun (v_4 : Sl) (h : Heap) =>
  opK Try.prog .slice (Builtin.append_ #[T.sl_uint8, T.sl_uint8] T.sl_uint8 #[(.slice v_1.a v_1.n v_1.c), (.slice v_4.a v_4.n v_4.c)]) (fun (v_5 : Sl) (h : Heap) =>
  R (.slice v_5.a v_5.n v_5.c) h) h) h))))) h))
def digest_fill.ann : Ann := (.seq .leaf (.seq .leaf (.seq .leaf (.seq .leaf (.seq .leaf .leaf)))))
theorem digest_fill.eq (n0 : Int) (R : Value → Heap → Prop) (h : Heap) : digest_fill.body n0 R h = evFn Try.prog Try.f46 digest_fill.ann [(.int .i64 n0)] R h := by kernel_rfl
theorem digest_fill.calls {n0 : Int} {R : Value → Heap → Prop} {h : Heap} (H : digest_fill.body n0 R h) : HC Try.prog F.digest_fill #[(.int .i64 n0)] R h :=
  evFn_sound mixed Try.func46 (by kernel_rfl) (digest_fill.eq n0 R h ▸ H)

/-! (*zugzwang/bits.row).put -/
def bits_row_put.body (r0 : Option Addr) (w1 : Int) (R : Value → Heap → Prop) (h : Heap) : Prop :=
  derefK r0 (fun (a_1 : Addr) =>
  fldK ((some a_1)) 0 (fun (a_2 : Addr) =>
  loadK .slice h ((some a_2)) (fun (v_3 : Sl) =>
  shiftK 24
  (shiftK 16
  (shiftK 8
  (newSlK h 4 #[(.int .u8 (IntKind.u8.wrap (Int.fdiv w1 (2 ^ min (Int.toNat 24) (IntKind.bits .u32))))), (.int .u8 (IntKind.u8.wrap (Int.fdiv w1 (2 ^ min (Int.toNat 16) (IntKind.bits .u32))))), (.int .u8 (IntKind.u8.wrap (Int.fdiv w1 (2 ^ min (Int.toNat 8) (IntKind.bits .u32))))), (.int .u8 (IntKind.u8.wrap w1))] T.uint8 (fun (v_4 : Sl) (h : Heap) =>
  opK Try.prog .slice (Builtin.append_ #[T.sl_uint8, T.sl_uint8] T.sl_uint8 #[(.slice v_3.a v_3.n v_3.c), (.slice v_4.a v_4.n v_4.c)]) (fun (v_5 : Sl) (h : Heap) =>
  derefK r0 (fun (a_6 : Addr) =>
  fldK ((some a_6)) 0 (fun (a_7 : Addr) =>
  storeK h ((some a_7)) (.slice v_5.a v_5.n v_5.c) (fun (h : Heap) =>
  R (.tuple #[]) h)))) h)))))))
def bits_row_put.ann : Ann := .leaf
theorem bits_row_put.eq (r0 : Option Addr) (w1 : Int) (R : Value → Heap → Prop) (h : Heap) : bits_row_put.body r0 w1 R h = evFn Try.prog Try.f62 bits_row_put.ann [(.pointer r0), (.int .u32 w1)] R h := by kernel_rfl
theorem bits_row_put.calls {r0 : Option Addr} {w1 : Int} {R : Value → Heap → Prop} {h : Heap} (H : bits_row_put.body r0 w1 R h) : HC Try.prog F.bits_row_put #[(.pointer r0), (.int .u32 w1)] R h :=
  evFn_sound mixed Try.func62 (by kernel_rfl) (bits_row_put.eq r0 w1 R h ▸ H)

/-! zugzwang/commit.opened -/
def commit_opened.body (t0 : Array Value) (ask1 : Value) (R : Value → Heap → Prop) (h : Heap) : Prop :=
  newK h t0 T.api_Tag (fun (t_1 : Option Addr) (h : Heap) =>
  callV Try.prog (Kd.pair .agg (.int .i64)) ask1 #[] (fun (v_2 : Array Value × Int) (h : Heap) =>
  newK h (zerosOf Try.prog T.api_Tag) T.api_Tag (fun (x_3 : Option Addr) (h : Heap) =>
  storeAggK (sizeOfT Try.prog T.api_Tag) h x_3 v_2.1 (fun (h : Heap) =>
  if (v_2.2 != 0) = true then
  R (.int .i64 v_2.2) h
  else
  loadAggK (sizeOfT Try.prog T.api_Tag) h x_3 (fun (v_4 : Array Value) =>
  loadAggK (sizeOfT Try.prog T.api_Tag) h t_1 (fun (v_5 : Array Value) =>
  eqK Try.prog (binSem .neq T.api_Tag (.tmp 17) (.tmp 18) (.agg v_4) (.agg v_5)) (fun (v_6 : Bool) =>
  if v_6 = true then
  R (.int .i64 7) h
  else
  R (.int .i64 0) h)))))) h)
def commit_opened.ann : Ann := (.seq .leaf (.seq .leaf (.seq (.block (.seq .leaf (.cond (.seq .leaf .leaf) (.seq .leaf (.cond (.seq .leaf .leaf) .leaf))))) (.seq .leaf .leaf))))
theorem commit_opened.eq (t0 : Array Value) (ask1 : Value) (R : Value → Heap → Prop) (h : Heap) : commit_opened.body t0 ask1 R h = evFn Try.prog Try.f53 commit_opened.ann [(.agg t0), ask1] R h := by kernel_rfl
theorem commit_opened.calls {t0 : Array Value} {ask1 : Value} {R : Value → Heap → Prop} {h : Heap} (H : commit_opened.body t0 ask1 R h) : HC Try.prog F.commit_opened #[(.agg t0), ask1] R h :=
  evFn_sound mixed Try.func53 (by kernel_rfl) (commit_opened.eq t0 ask1 R h ▸ H)

/-! zugzwang/bits.Bytes -/
def bits_Bytes.body (words0 : Sl) (R : Value → Heap → Prop) (h : Heap) : Prop :=
  newK h (zerosOf Try.prog T.bits_reader) T.bits_reader (fun (r_1 : Option Addr) (h : Heap) =>
  loopW (fun X_3 (s_2 : Int) (h : Heap) =>
  if (decide (s_2 < ((words0.n : Int)))) = true then
  idxK words0 s_2 (sizeOfT Try.prog T.uint32) (fun (a_4 : Addr) =>
  loadK (.int .u32) h ((some a_4)) (fun (v_5 : Int) =>
  fldK r_1 0 (fun (a_6 : Addr) =>
  callK Try.prog .unit F.bits_row_put #[(.pointer ((some a_6))), (.int .u32 v_5)] (fun (v_7 : Unit) (h : Heap) =>
  X_3 (IntKind.i64.wrap (s_2 + 1)) h) h)))
  else
  fldK r_1 0 (fun (a_8 : Addr) =>
  fldK ((some a_8)) 0 (fun (a_9 : Addr) =>
  loadK .slice h ((some a_9)) (fun (v_10 : Sl) =>
  R (.slice v_10.a v_10.n v_10.c) h)))) 0 h)
def bits_Bytes.ann : Ann := (.seq .leaf (.seq .leaf (.seq (.seq .leaf (.block (.loop [(8, (.int .i64))] (.seq .leaf (.seq (.cond .leaf .leaf) (.seq (.block (.seq .leaf .leaf)) .leaf)))))) (.seq .leaf .leaf))))
theorem bits_Bytes.eq (words0 : Sl) (R : Value → Heap → Prop) (h : Heap) : bits_Bytes.body words0 R h = evFn Try.prog Try.f47 bits_Bytes.ann [(.slice words0.a words0.n words0.c)] R h := by kernel_rfl
theorem bits_Bytes.calls {words0 : Sl} {R : Value → Heap → Prop} {h : Heap} (H : bits_Bytes.body words0 R h) : HC Try.prog F.bits_Bytes #[(.slice words0.a words0.n words0.c)] R h :=
  evFn_sound mixed Try.func47 (by kernel_rfl) (bits_Bytes.eq words0 R h ▸ H)

/-! (*zugzwang/draw.Draw).White -/
def draw_Draw_White.body (d0 : Option Addr) (R : Value → Heap → Prop) (h : Heap) : Prop :=
  callK Try.prog (.int .i64) F.draw_Draw_Phase #[(.pointer d0)] (fun (v_1 : Int) (h : Heap) =>
  if (v_1 != 3) = true then
  R (.tuple #[(.int .i64 0), (.bool false)]) h
  else
  derefK d0 (fun (a_2 : Addr) =>
  fldK ((some a_2)) 0 (fun (a_3 : Addr) =>
  fldK ((some a_3)) 34 (fun (a_4 : Addr) =>
  loadK (.int .i64) h ((some a_4)) (fun (v_5 : Int) =>
  derefK d0 (fun (a_6 : Addr) =>
  fldK ((some a_6)) 99 (fun (a_7 : Addr) =>
  fldK ((some a_7)) 32 (fun (a_8 : Addr) =>
  loadK (.int .i64) h ((some a_8)) (fun (v_9 : Int) =>
  R (.tuple #[(.int .i64 (IntKind.i64.wrap (BitVec.ofInt (IntKind.bits .i64) v_5 ^^^ BitVec.ofInt (IntKind.bits .i64) v_9).toNat)), (.bool true)]) h))))))))) h
def draw_Draw_White.ann : Ann := (.seq .leaf (.seq (.seq .leaf (.cond (.seq .leaf .leaf) .leaf)) (.seq .leaf .leaf)))
theorem draw_Draw_White.eq (d0 : Option Addr) (R : Value → Heap → Prop) (h : Heap) : draw_Draw_White.body d0 R h = evFn Try.prog Try.f9 draw_Draw_White.ann [(.pointer d0)] R h := by kernel_rfl
theorem draw_Draw_White.calls {d0 : Option Addr} {R : Value → Heap → Prop} {h : Heap} (H : draw_Draw_White.body d0 R h) : HC Try.prog F.draw_Draw_White #[(.pointer d0)] R h :=
  evFn_sound mixed Try.func9 (by kernel_rfl) (draw_Draw_White.eq d0 R h ▸ H)

/-! zugzwang/tags.eight -/
def tags_eight.body (n0 : Int) (R : Value → Heap → Prop) (h : Heap) : Prop :=
  loopW (fun X_2 (s_1 : Sl × Int) (h : Heap) =>
  if (decide (s_1.2 < 8)) = true then
  shiftK (IntKind.i64.wrap (56 - (IntKind.i64.wrap (8 * s_1.2))))
  (newSlK h 1 #[(.int .u8 (IntKind.u8.wrap (Int.fdiv (IntKind.u64.wrap n0) (2 ^ min (Int.toNat (IntKind.i64.wrap (56 - (IntKind.i64.wrap (8 * s_1.2))))) (IntKind.bits .u64)))))] T.uint8 (fun (v_3 : Sl) (h : Heap) =>
  opK Try.prog .slice (Builtin.append_ #[T.sl_uint8, T.sl_uint8] T.sl_uint8 #[(.slice s_1.1.a s_1.1.n s_1.1.c), (.slice v_3.a v_3.n v_3.c)]) (fun (v_4 : Sl) (h : Heap) =>
  X_2 (v_4, IntKind.i64.wrap (s_1.2 + 1)) h) h))
  else
  R (.slice s_1.1.a s_1.1.n s_1.1.c) h) (⟨none, 0, 0⟩, 0) h
def tags_eight.ann : Ann := (.seq .leaf (.seq (.seq .leaf (.block (.loop [(2, .slice), (4, (.int .i64))] (.seq .leaf (.seq (.cond .leaf .leaf) (.seq (.block (.seq .leaf .leaf)) .leaf)))))) (.seq .leaf .leaf)))
theorem tags_eight.eq (n0 : Int) (R : Value → Heap → Prop) (h : Heap) : tags_eight.body n0 R h = evFn Try.prog Try.f27 tags_eight.ann [(.int .i64 n0)] R h := by kernel_rfl
theorem tags_eight.calls {n0 : Int} {R : Value → Heap → Prop} {h : Heap} (H : tags_eight.body n0 R h) : HC Try.prog F.tags_eight #[(.int .i64 n0)] R h :=
  evFn_sound mixed Try.func27 (by kernel_rfl) (tags_eight.eq n0 R h ▸ H)

/-! maps.Clone[map[zugzwang/tags.thing]int,zugzwang/tags.thing,int] -/
def maps_Clone_map_tags_thing_int_tags_thing_int.body (m0 : Option Nat) (R : Value → Heap → Prop) (h : Heap) : Prop :=
  if m0.isNone = true then
  R (.map none) h
  else
  opK Try.prog .any (Instr.makeInterface T.map_atags_thing_int (.map m0)) (fun (v_1 : Value) (h : Heap) =>
  externK Try.prog .any F.maps_clone #[v_1] (fun (v_2 : Value) (h : Heap) =>
  opK Try.prog .map (Instr.typeAssert v_2 T.interface20 T.map_atags_thing_int false) (fun (v_3 : Option Nat) (h : Heap) =>
  R (.map v_3) h) h) h) h
def maps_Clone_map_tags_thing_int_tags_thing_int.ann : Ann := (.seq .leaf (.seq (.seq .leaf (.cond (.seq .leaf .leaf) .leaf)) (.seq .leaf .leaf)))
theorem maps_Clone_map_tags_thing_int_tags_thing_int.eq (m0 : Option Nat) (R : Value → Heap → Prop) (h : Heap) : maps_Clone_map_tags_thing_int_tags_thing_int.body m0 R h = evFn Try.prog Try.f49 maps_Clone_map_tags_thing_int_tags_thing_int.ann [(.map m0)] R h := by kernel_rfl
theorem maps_Clone_map_tags_thing_int_tags_thing_int.calls {m0 : Option Nat} {R : Value → Heap → Prop} {h : Heap} (H : maps_Clone_map_tags_thing_int_tags_thing_int.body m0 R h) : HC Try.prog F.maps_Clone_map_tags_thing_int_tags_thing_int #[(.map m0)] R h :=
  evFn_sound mixed Try.func49 (by kernel_rfl) (maps_Clone_map_tags_thing_int_tags_thing_int.eq m0 R h ▸ H)

/-! zugzwang/bits.Mix -/
def bits_Mix.body (x0 : Int) (turns1 : Sl) (R : Value → Heap → Prop) (h : Heap) : Prop :=
  loopW (fun X_2 (s_1 : Int × Int) (h : Heap) =>
  if (decide (s_1.2 < ((turns1.n : Int)))) = true then
  idxK turns1 s_1.2 (sizeOfT Try.prog T.int) (fun (a_3 : Addr) =>
  loadK (.int .i64) h ((some a_3)) (fun (v_4 : Int) =>
  callK Try.prog (.int .u32) F.bits_Turn #[(.int .u32 x0), (.int .i64 v_4)] (fun (v_5 : Int) (h : Heap) =>
  X_2 (IntKind.u32.wrap (BitVec.ofInt (IntKind.bits .u32) s_1.1 ^^^ BitVec.ofInt (IntKind.bits .u32) v_5).toNat, IntKind.i64.wrap (s_1.2 + 1)) h) h))
  else
  R (.int .u32 s_1.1) h) (0, 0) h
def bits_Mix.ann : Ann := (.seq .leaf (.seq (.seq .leaf (.block (.loop [(4, (.int .u32)), (9, (.int .i64))] (.seq .leaf (.seq (.cond .leaf .leaf) (.seq (.block (.seq .leaf .leaf)) .leaf)))))) (.seq .leaf .leaf)))
theorem bits_Mix.eq (x0 : Int) (turns1 : Sl) (R : Value → Heap → Prop) (h : Heap) : bits_Mix.body x0 turns1 R h = evFn Try.prog Try.f57 bits_Mix.ann [(.int .u32 x0), (.slice turns1.a turns1.n turns1.c)] R h := by kernel_rfl
theorem bits_Mix.calls {x0 : Int} {turns1 : Sl} {R : Value → Heap → Prop} {h : Heap} (H : bits_Mix.body x0 turns1 R h) : HC Try.prog F.bits_Mix #[(.int .u32 x0), (.slice turns1.a turns1.n turns1.c)] R h :=
  evFn_sound mixed Try.func57 (by kernel_rfl) (bits_Mix.eq x0 turns1 R h ▸ H)

/-! (*zugzwang/codec.state).spoil -/
def codec_state_spoil.body (s0 : Option Addr) (e1 : Int) (R : Value → Heap → Prop) (h : Heap) : Prop :=
  joinW (fun (s_1 : Unit) (h : Heap) =>
  derefK s0 (fun (a_2 : Addr) =>
  fldK ((some a_2)) 1 (fun (a_3 : Addr) =>
  loadK (.int .i64) h ((some a_3)) (fun (v_4 : Int) =>
  R (.int .i64 v_4) h))))
  (fun J_5 =>
  derefK s0 (fun (a_6 : Addr) =>
  fldK ((some a_6)) 1 (fun (a_7 : Addr) =>
  loadK (.int .i64) h ((some a_7)) (fun (v_8 : Int) =>
  if (v_8 == 0) = true then
  derefK s0 (fun (a_9 : Addr) =>
  fldK ((some a_9)) 1 (fun (a_10 : Addr) =>
  storeK h ((some a_10)) (.int .i64 e1) (fun (h : Heap) =>
  J_5 () h)))
  else
  J_5 () h))))
def codec_state_spoil.ann : Ann := (.seq .leaf (.join [] (.seq .leaf (.cond .leaf .leaf)) (.seq .leaf .leaf)))
theorem codec_state_spoil.eq (s0 : Option Addr) (e1 : Int) (R : Value → Heap → Prop) (h : Heap) : codec_state_spoil.body s0 e1 R h = evFn Try.prog Try.f80 codec_state_spoil.ann [(.pointer s0), (.int .i64 e1)] R h := by kernel_rfl
theorem codec_state_spoil.calls {s0 : Option Addr} {e1 : Int} {R : Value → Heap → Prop} {h : Heap} (H : codec_state_spoil.body s0 e1 R h) : HC Try.prog F.codec_state_spoil #[(.pointer s0), (.int .i64 e1)] R h :=
  evFn_sound mixed Try.func80 (by kernel_rfl) (codec_state_spoil.eq s0 e1 R h ▸ H)

/-! zugzwang/msg.Body -/
def msg_Body.body (b0 : Array Value) (R : Value → Heap → Prop) (h : Heap) : Prop :=
  newK h b0 T.api_Body (fun (b_1 : Option Addr) (h : Heap) =>
  loadAggK (sizeOfT Try.prog T.api_Body) h b_1 (fun (v_2 : Array Value) =>
  callK Try.prog (Kd.pair .agg .bool) F.msg_named #[(.agg v_2)] (fun (v_3 : Array Value × Bool) (h : Heap) =>
  newK h (zerosOf Try.prog T.api_Body) T.api_Body (fun (has_4 : Option Addr) (h : Heap) =>
  storeAggK (sizeOfT Try.prog T.api_Body) h has_4 v_3.1 (fun (h : Heap) =>
  if v_3.2 = true then
  loadAggK (sizeOfT Try.prog T.api_Body) h has_4 (fun (v_5 : Array Value) =>
  loadAggK (sizeOfT Try.prog T.api_Body) h b_1 (fun (v_6 : Array Value) =>
  eqK Try.prog (binSem .eql T.api_Body (.tmp 12) (.tmp 13) (.agg v_5) (.agg v_6)) (fun (v_7 : Bool) =>
  R (.bool v_7) h)))
  else
  R (.bool false) h))) h))
def msg_Body.ann : Ann := (.seq .leaf (.seq .leaf (.seq .leaf .leaf)))
theorem msg_Body.eq (b0 : Array Value) (R : Value → Heap → Prop) (h : Heap) : msg_Body.body b0 R h = evFn Try.prog Try.f43 msg_Body.ann [(.agg b0)] R h := by kernel_rfl
theorem msg_Body.calls {b0 : Array Value} {R : Value → Heap → Prop} {h : Heap} (H : msg_Body.body b0 R h) : HC Try.prog F.msg_Body #[(.agg b0)] R h :=
  evFn_sound mixed Try.func43 (by kernel_rfl) (msg_Body.eq b0 R h ▸ H)

/-! zugzwang/tags.New -/
def tags_New.body (real0 : Bool) (seed1 : Sl) (R : Value → Heap → Prop) (h : Heap) : Prop :=
  opK Try.prog .map (Instr.makeMap T.map_atags_thing_int none) (fun (v_1 : Option Nat) (h : Heap) =>
  buildK Try.prog (Instr.build T.tags_book #[(0, (.map v_1))]) (fun (v_2 : Array Value) =>
  callK Try.prog .slice F.slices_Clone_byte_byte #[(.slice seed1.a seed1.n seed1.c)] (fun (v_3 : Sl) (h : Heap) =>
  buildK Try.prog (Instr.build T.tags_Maker #[(0, (.agg v_2)), (1, (.bool real0)), (2, (.slice v_3.a v_3.n v_3.c))]) (fun (v_4 : Array Value) =>
  newK h v_4 T.tags_Maker (fun (v_5 : Option Addr) (h : Heap) =>
  R (.pointer v_5) h))) h)) h
def tags_New.ann : Ann := (.seq .leaf (.seq .leaf .leaf))
theorem tags_New.eq (real0 : Bool) (seed1 : Sl) (R : Value → Heap → Prop) (h : Heap) : tags_New.body real0 seed1 R h = evFn Try.prog Try.f11 tags_New.ann [(.bool real0), (.slice seed1.a seed1.n seed1.c)] R h := by kernel_rfl
theorem tags_New.calls {real0 : Bool} {seed1 : Sl} {R : Value → Heap → Prop} {h : Heap} (H : tags_New.body real0 seed1 R h) : HC Try.prog F.tags_New #[(.bool real0), (.slice seed1.a seed1.n seed1.c)] R h :=
  evFn_sound mixed Try.func11 (by kernel_rfl) (tags_New.eq real0 seed1 R h ▸ H)

/-! zugzwang/digest.Of -/
def digest_Of.body (rows0 : Sl) (R : Value → Heap → Prop) (h : Heap) : Prop :=
  newK h (zerosOf Try.prog T.api_Tag) T.api_Tag (fun (v_1 : Option Addr) (h : Heap) =>
  callK Try.prog .ptr F.digest_New #[] (fun (v_2 : Option Addr) (h : Heap) =>
  callK Try.prog .unit F.digest_Hasher_all #[(.pointer v_2), (.slice rows0.a rows0.n rows0.c)] (fun (v_3 : Unit) (h : Heap) =>
  callK Try.prog .agg F.digest_Hasher_ended #[(.pointer v_2)] (fun (v_4 : Array Value) (h : Heap) =>
  storeAggK (sizeOfT Try.prog T.api_Tag) h v_1 v_4 (fun (h : Heap) =>
  quietK Try.prog .agg (Instr.loadAt T.api_Tag (.pointer v_1)) (fun (r_5 : Array Value) =>
  R (.agg r_5) h) h)) h) h) h)
def digest_Of.ann : Ann := (.seq .leaf (.seq .leaf (.seq .leaf (.seq .leaf .leaf))))
theorem digest_Of.eq (rows0 : Sl) (R : Value → Heap → Prop) (h : Heap) : digest_Of.body rows0 R h = evFn Try.prog Try.f26 digest_Of.ann [(.slice rows0.a rows0.n rows0.c)] R h := by kernel_rfl
theorem digest_Of.calls {rows0 : Sl} {R : Value → Heap → Prop} {h : Heap} (H : digest_Of.body rows0 R h) : HC Try.prog F.digest_Of #[(.slice rows0.a rows0.n rows0.c)] R h :=
  evFn_sound mixed Try.func26 (by kernel_rfl) (digest_Of.eq rows0 R h ▸ H)

/-! zugzwang/draw.takes -/
def draw_takes.body  (R : Value → Heap → Prop) (h : Heap) : Prop :=
  opK Try.prog .map (Instr.makeMap T.map_aapi_MsgKind_func_p_draw_Draw_api_Msg_api_Errno none) (fun (v_1 : Option Nat) (h : Heap) =>
  unitK Try.prog (Instr.mapUpdate T.map_aapi_MsgKind_func_p_draw_Draw_api_Msg_api_Errno (.map v_1) (.int .i64 1) ((Value.func (.func F.draw_Draw_committed) #[] #[]))) (fun (h : Heap) =>
  unitK Try.prog (Instr.mapUpdate T.map_aapi_MsgKind_func_p_draw_Draw_api_Msg_api_Errno (.map v_1) (.int .i64 2) ((Value.func (.func F.draw_Draw_revealed) #[] #[]))) (fun (h : Heap) =>
  unitK Try.prog (Instr.mapUpdate T.map_aapi_MsgKind_func_p_draw_Draw_api_Msg_api_Errno (.map v_1) (.int .i64 4) ((Value.func (.func F.draw_Draw_left) #[] #[]))) (fun (h : Heap) =>
  R (.map v_1) h) h) h) h) h
def draw_takes.ann : Ann := (.seq .leaf (.seq .leaf .leaf))
theorem draw_takes.eq  (R : Value → Heap → Prop) (h : Heap) : draw_takes.body  R h = evFn Try.prog Try.f21 draw_takes.ann [] R h := by kernel_rfl
theorem draw_takes.calls  {R : Value → Heap → Prop} {h : Heap} (H : draw_takes.body  R h) : HC Try.prog F.draw_takes #[] R h :=
  evFn_sound mixed Try.func21 (by kernel_rfl) (draw_takes.eq  R h ▸ H)

/-! (*zugzwang/draw.Draw).Side -/
def draw_Draw_Side.body (d0 : Option Addr) (R : Value → Heap → Prop) (h : Heap) : Prop :=
  callK Try.prog (Kd.pair (.int .i64) .bool) F.draw_Draw_White #[(.pointer d0)] (fun (v_1 : Int × Bool) (h : Heap) =>
  if v_1.2 = true then
  derefK d0 (fun (a_2 : Addr) =>
  fldK ((some a_2)) 0 (fun (a_3 : Addr) =>
  fldK ((some a_3)) 33 (fun (a_4 : Addr) =>
  loadK (.int .i64) h ((some a_4)) (fun (v_5 : Int) =>
  if (v_1.1 != v_5) = true then
  R (.tuple #[(.int .i64 1), (.bool v_1.2)]) h
  else
  R (.tuple #[(.int .i64 0), (.bool v_1.2)]) h))))
  else
  R (.tuple #[(.int .i64 0), (.bool v_1.2)]) h) h
def draw_Draw_Side.ann : Ann := (.seq .leaf (.seq .leaf (.seq (.seq .leaf (.cond .leaf .leaf)) (.seq .leaf .leaf))))
theorem draw_Draw_Side.eq (d0 : Option Addr) (R : Value → Heap → Prop) (h : Heap) : draw_Draw_Side.body d0 R h = evFn Try.prog Try.f10 draw_Draw_Side.ann [(.pointer d0)] R h := by kernel_rfl
theorem draw_Draw_Side.calls {d0 : Option Addr} {R : Value → Heap → Prop} {h : Heap} (H : draw_Draw_Side.body d0 R h) : HC Try.prog F.draw_Draw_Side #[(.pointer d0)] R h :=
  evFn_sound mixed Try.func10 (by kernel_rfl) (draw_Draw_Side.eq d0 R h ▸ H)

/-! zugzwang/msg.Entry -/
def msg_Entry.body (e0 : Array Value) (R : Value → Heap → Prop) (h : Heap) : Prop :=
  newK h e0 T.api_Entry (fun (e_1 : Option Addr) (h : Heap) =>
  fldK e_1 32 (fun (a_2 : Addr) =>
  loadK (.int .i64) h ((some a_2)) (fun (v_3 : Int) =>
  if (decide (v_3 ≥ 0)) = true then
  fldK e_1 32 (fun (a_4 : Addr) =>
  loadK (.int .i64) h ((some a_4)) (fun (v_5 : Int) =>
  if (decide (v_5 ≤ 4294967295)) = true then
  fldK e_1 65 (fun (a_6 : Addr) =>
  loadAggK (sizeOfT Try.prog T.api_Body) h ((some a_6)) (fun (v_7 : Array Value) =>
  callK Try.prog .bool F.msg_Body #[(.agg v_7)] (fun (v_8 : Bool) (h : Heap) =>
  R (.bool v_8) h) h))
  else
  R (.bool false) h))
  else
  R (.bool false) h)))
def msg_Entry.ann : Ann := (.seq .leaf (.seq .leaf .leaf))
theorem msg_Entry.eq (e0 : Array Value) (R : Value → Heap → Prop) (h : Heap) : msg_Entry.body e0 R h = evFn Try.prog Try.f35 msg_Entry.ann [(.agg e0)] R h := by kernel_rfl
theorem msg_Entry.calls {e0 : Array Value} {R : Value → Heap → Prop} {h : Heap} (H : msg_Entry.body e0 R h) : HC Try.prog F.msg_Entry #[(.agg e0)] R h :=
  evFn_sound mixed Try.func35 (by kernel_rfl) (msg_Entry.eq e0 R h ▸ H)

/-! zugzwang/digest.begun -/
def digest_begun.body  (R : Value → Heap → Prop) (h : Heap) : Prop :=
  newK h (zerosOf Try.prog T.digest_state) T.digest_state (fun (v_1 : Option Addr) (h : Heap) =>
  buildK Try.prog (Instr.build T.digest_state #[(0, (.int .u32 1779033703)), (1, (.int .u32 3144134277)), (2, (.int .u32 1013904242)), (3, (.int .u32 2773480762)), (4, (.int .u32 1359893119)), (5, (.int .u32 2600822924)), (6, (.int .u32 528734635)), (7, (.int .u32 1541459225))]) (fun (v_2 : Array Value) =>
  storeAggK (sizeOfT Try.prog T.digest_state) h v_1 v_2 (fun (h : Heap) =>
  quietK Try.prog .agg (Instr.loadAt T.digest_state (.pointer v_1)) (fun (r_3 : Array Value) =>
  R (.agg r_3) h) h)))
def digest_begun.ann : Ann := (.seq .leaf (.seq .leaf .leaf))
theorem digest_begun.eq  (R : Value → Heap → Prop) (h : Heap) : digest_begun.body  R h = evFn Try.prog Try.f44 digest_begun.ann [] R h := by kernel_rfl
theorem digest_begun.calls  {R : Value → Heap → Prop} {h : Heap} (H : digest_begun.body  R h) : HC Try.prog F.digest_begun #[] R h :=
  evFn_sound mixed Try.func44 (by kernel_rfl) (digest_begun.eq  R h ▸ H)

/-! zugzwang/bits.Sum -/
def bits_Sum.body (words0 : Sl) (R : Value → Heap → Prop) (h : Heap) : Prop :=
  loopW (fun X_2 (s_1 : Int × Int) (h : Heap) =>
  if (decide (s_1.2 < ((words0.n : Int)))) = true then
  idxK words0 s_1.2 (sizeOfT Try.prog T.uint32) (fun (a_3 : Addr) =>
  loadK (.int .u32) h ((some a_3)) (fun (v_4 : Int) =>
  X_2 (IntKind.u32.wrap (s_1.1 + v_4), IntKind.i64.wrap (s_1.2 + 1)) h))
  else
  R (.int .u32 s_1.1) h) (0, 0) h
def bits_Sum.ann : Ann := (.seq .leaf (.seq (.seq .leaf (.block (.loop [(2, (.int .u32)), (7, (.int .i64))] (.seq .leaf (.seq (.cond .leaf .leaf) (.seq (.block (.seq .leaf .leaf)) .leaf)))))) (.seq .leaf .leaf)))
theorem bits_Sum.eq (words0 : Sl) (R : Value → Heap → Prop) (h : Heap) : bits_Sum.body words0 R h = evFn Try.prog Try.f59 bits_Sum.ann [(.slice words0.a words0.n words0.c)] R h := by kernel_rfl
theorem bits_Sum.calls {words0 : Sl} {R : Value → Heap → Prop} {h : Heap} (H : bits_Sum.body words0 R h) : HC Try.prog F.bits_Sum #[(.slice words0.a words0.n words0.c)] R h :=
  evFn_sound mixed Try.func59 (by kernel_rfl) (bits_Sum.eq words0 R h ▸ H)

/-! slices.Clone[[]byte,byte] -/
def slices_Clone_byte_byte.body (s0 : Sl) (R : Value → Heap → Prop) (h : Heap) : Prop :=
  if s0.a.isNone = true then
  R (.slice none 0 0) h
  else
  newSlK h 0 #[] T.uint8 (fun (v_1 : Sl) (h : Heap) =>
  opK Try.prog .slice (Builtin.append_ #[T.sl_uint8, T.sl_uint8] T.sl_uint8 #[(.slice v_1.a v_1.n v_1.c), (.slice s0.a s0.n s0.c)]) (fun (v_2 : Sl) (h : Heap) =>
  R (.slice v_2.a v_2.n v_2.c) h) h)
def slices_Clone_byte_byte.ann : Ann := (.seq .leaf (.seq (.seq .leaf (.cond (.seq .leaf .leaf) .leaf)) (.seq .leaf .leaf)))
theorem slices_Clone_byte_byte.eq (s0 : Sl) (R : Value → Heap → Prop) (h : Heap) : slices_Clone_byte_byte.body s0 R h = evFn Try.prog Try.f19 slices_Clone_byte_byte.ann [(.slice s0.a s0.n s0.c)] R h := by kernel_rfl
theorem slices_Clone_byte_byte.calls {s0 : Sl} {R : Value → Heap → Prop} {h : Heap} (H : slices_Clone_byte_byte.body s0 R h) : HC Try.prog F.slices_Clone_byte_byte #[(.slice s0.a s0.n s0.c)] R h :=
  evFn_sound mixed Try.func19 (by kernel_rfl) (slices_Clone_byte_byte.eq s0 R h ▸ H)

/-! zugzwang/bits.Choose -/
def bits_Choose.body (x0 : Int) (a1 : Int) (b2 : Int) (R : Value → Heap → Prop) (h : Heap) : Prop :=
  R (.int .u32 (IntKind.u32.wrap (BitVec.ofInt (IntKind.bits .u32) b2 ^^^ BitVec.ofInt (IntKind.bits .u32) (IntKind.u32.wrap (BitVec.ofInt (IntKind.bits .u32) x0 &&& BitVec.ofInt (IntKind.bits .u32) (IntKind.u32.wrap (BitVec.ofInt (IntKind.bits .u32) a1 ^^^ BitVec.ofInt (IntKind.bits .u32) b2).toNat)).toNat)).toNat)) h
def bits_Choose.ann : Ann := (.seq .leaf (.seq .leaf .leaf))
theorem bits_Choose.eq (x0 : Int) (a1 : Int) (b2 : Int) (R : Value → Heap → Prop) (h : Heap) : bits_Choose.body x0 a1 b2 R h = evFn Try.prog Try.f71 bits_Choose.ann [(.int .u32 x0), (.int .u32 a1), (.int .u32 b2)] R h := by kernel_rfl
theorem bits_Choose.calls {x0 : Int} {a1 : Int} {b2 : Int} {R : Value → Heap → Prop} {h : Heap} (H : bits_Choose.body x0 a1 b2 R h) : HC Try.prog F.bits_Choose #[(.int .u32 x0), (.int .u32 a1), (.int .u32 b2)] R h :=
  evFn_sound mixed Try.func71 (by kernel_rfl) (bits_Choose.eq x0 a1 b2 R h ▸ H)

/-! (*zugzwang/codec.Writer).Tag -/
def codec_Writer_Tag.body (w0 : Option Addr) (l1 : Sl) (R : Value → Heap → Prop) (h : Heap) : Prop :=
  buildK Try.prog (Instr.build T.codec_ruleaapi_Tag #[(1, ((Value.func (.func F.codec_Writer_Tag_1) #[] #[])))]) (fun (v_1 : Array Value) =>
  callK Try.prog (.int .i64) F.codec_put_api_Tag #[(.pointer w0), (.agg v_1), (.slice l1.a l1.n l1.c)] (fun (v_2 : Int) (h : Heap) =>
  R (.int .i64 v_2) h) h)
def codec_Writer_Tag.ann : Ann := (.seq .leaf (.seq .leaf .leaf))
theorem codec_Writer_Tag.eq (w0 : Option Addr) (l1 : Sl) (R : Value → Heap → Prop) (h : Heap) : codec_Writer_Tag.body w0 l1 R h = evFn Try.prog Try.f66 codec_Writer_Tag.ann [(.pointer w0), (.slice l1.a l1.n l1.c)] R h := by kernel_rfl
theorem codec_Writer_Tag.calls {w0 : Option Addr} {l1 : Sl} {R : Value → Heap → Prop} {h : Heap} (H : codec_Writer_Tag.body w0 l1 R h) : HC Try.prog F.codec_Writer_Tag #[(.pointer w0), (.slice l1.a l1.n l1.c)] R h :=
  evFn_sound mixed Try.func66 (by kernel_rfl) (codec_Writer_Tag.eq w0 l1 R h ▸ H)

/-! (*zugzwang/codec.Writer).Run -/
def codec_Writer_Run.body (w0 : Option Addr) (l1 : Sl) (R : Value → Heap → Prop) (h : Heap) : Prop :=
  buildK Try.prog (Instr.build T.codec_ruleasl_byte #[(1, ((Value.func (.func F.codec_Writer_Run_1) #[] #[])))]) (fun (v_1 : Array Value) =>
  callK Try.prog (.int .i64) F.codec_put_byte #[(.pointer w0), (.agg v_1), (.slice l1.a l1.n l1.c)] (fun (v_2 : Int) (h : Heap) =>
  R (.int .i64 v_2) h) h)
def codec_Writer_Run.ann : Ann := (.seq .leaf (.seq .leaf .leaf))
theorem codec_Writer_Run.eq (w0 : Option Addr) (l1 : Sl) (R : Value → Heap → Prop) (h : Heap) : codec_Writer_Run.body w0 l1 R h = evFn Try.prog Try.f65 codec_Writer_Run.ann [(.pointer w0), (.slice l1.a l1.n l1.c)] R h := by kernel_rfl
theorem codec_Writer_Run.calls {w0 : Option Addr} {l1 : Sl} {R : Value → Heap → Prop} {h : Heap} (H : codec_Writer_Run.body w0 l1 R h) : HC Try.prog F.codec_Writer_Run #[(.pointer w0), (.slice l1.a l1.n l1.c)] R h :=
  evFn_sound mixed Try.func65 (by kernel_rfl) (codec_Writer_Run.eq w0 l1 R h ▸ H)

/-! (*zugzwang/codec.Writer).Run$1 -/
def codec_Writer_Run_1.body (b0 : Sl) (R : Value → Heap → Prop) (h : Heap) : Prop :=
  callK Try.prog .slice F.codec_bytes4 #[(.int .i64 ((b0.n : Int)))] (fun (v_1 : Sl) (h : Heap) =>
  newSlK h 2 #[(.slice v_1.a v_1.n v_1.c), (.slice b0.a b0.n b0.c)] T.sl_uint8 (fun (v_2 : Sl) (h : Heap) =>
  callK Try.prog .slice F.slices_Concat_byte_byte #[(.slice v_2.a v_2.n v_2.c)] (fun (v_3 : Sl) (h : Heap) =>
  R (.slice v_3.a v_3.n v_3.c) h) h)) h
def codec_Writer_Run_1.ann : Ann := (.seq .leaf (.seq .leaf .leaf))
theorem codec_Writer_Run_1.eq (b0 : Sl) (R : Value → Heap → Prop) (h : Heap) : codec_Writer_Run_1.body b0 R h = evFn Try.prog Try.f73 codec_Writer_Run_1.ann [(.slice b0.a b0.n b0.c)] R h := by kernel_rfl
theorem codec_Writer_Run_1.calls {b0 : Sl} {R : Value → Heap → Prop} {h : Heap} (H : codec_Writer_Run_1.body b0 R h) : HC Try.prog F.codec_Writer_Run_1 #[(.slice b0.a b0.n b0.c)] R h :=
  evFn_sound mixed Try.func73 (by kernel_rfl) (codec_Writer_Run_1.eq b0 R h ▸ H)

/-! zugzwang/codec.bytes4 -/
def codec_bytes4.body (n0 : Int) (R : Value → Heap → Prop) (h : Heap) : Prop :=
  shiftK 24
  (shiftK 16
  (shiftK 8
  (newSlK h 4 #[(.int .u8 (IntKind.u8.wrap (Int.fdiv n0 (2 ^ min (Int.toNat 24) (IntKind.bits .i64))))), (.int .u8 (IntKind.u8.wrap (Int.fdiv n0 (2 ^ min (Int.toNat 16) (IntKind.bits .i64))))), (.int .u8 (IntKind.u8.wrap (Int.fdiv n0 (2 ^ min (Int.toNat 8) (IntKind.bits .i64))))), (.int .u8 (IntKind.u8.wrap n0))] T.uint8 (fun (v_1 : Sl) (h : Heap) =>
  R (.slice v_1.a v_1.n v_1.c) h))))
def codec_bytes4.ann : Ann := (.seq .leaf (.seq .leaf .leaf))
theorem codec_bytes4.eq (n0 : Int) (R : Value → Heap → Prop) (h : Heap) : codec_bytes4.body n0 R h = evFn Try.prog Try.f74 codec_bytes4.ann [(.int .i64 n0)] R h := by kernel_rfl
theorem codec_bytes4.calls {n0 : Int} {R : Value → Heap → Prop} {h : Heap} (H : codec_bytes4.body n0 R h) : HC Try.prog F.codec_bytes4 #[(.int .i64 n0)] R h :=
  evFn_sound mixed Try.func74 (by kernel_rfl) (codec_bytes4.eq n0 R h ▸ H)

/-! (*zugzwang/draw.Draw).Phase -/
def draw_Draw_Phase.body (d0 : Option Addr) (R : Value → Heap → Prop) (h : Heap) : Prop :=
  callK Try.prog .bool F.draw_Draw_made #[(.pointer d0)] (fun (v_1 : Bool) (h : Heap) =>
  if (!v_1) = true then
  R (.int .i64 0) h
  else
  derefK d0 (fun (a_2 : Addr) =>
  fldK ((some a_2)) 133 (fun (a_3 : Addr) =>
  loadK (.int .i64) h ((some a_3)) (fun (v_4 : Int) =>
  R (.int .i64 v_4) h)))) h
def draw_Draw_Phase.ann : Ann := (.seq .leaf (.seq (.seq .leaf (.cond (.seq .leaf .leaf) .leaf)) (.seq .leaf .leaf)))
theorem draw_Draw_Phase.eq (d0 : Option Addr) (R : Value → Heap → Prop) (h : Heap) : draw_Draw_Phase.body d0 R h = evFn Try.prog Try.f8 draw_Draw_Phase.ann [(.pointer d0)] R h := by kernel_rfl
theorem draw_Draw_Phase.calls {d0 : Option Addr} {R : Value → Heap → Prop} {h : Heap} (H : draw_Draw_Phase.body d0 R h) : HC Try.prog F.draw_Draw_Phase #[(.pointer d0)] R h :=
  evFn_sound mixed Try.func8 (by kernel_rfl) (draw_Draw_Phase.eq d0 R h ▸ H)

/-! zugzwang/zugzwangkit.Pick -/
def kit_Pick.body (x0 : Int) (n1 : Int) (R : Value → Heap → Prop) (h : Heap) : Prop :=
  if (decide (n1 < 1)) = true then
  R (.int .i64 0) h
  else
  divK n1
  (if (decide ((Int.tmod x0 n1) < 0)) = true then
  R (.int .i64 (IntKind.i64.wrap ((Int.tmod x0 n1) + n1))) h
  else
  R (.int .i64 (Int.tmod x0 n1)) h)
def kit_Pick.ann : Ann := (.seq .leaf (.seq (.seq .leaf (.cond (.seq .leaf .leaf) .leaf)) (.seq .leaf (.seq (.seq .leaf (.cond .leaf .leaf)) (.seq .leaf .leaf)))))
theorem kit_Pick.eq (x0 : Int) (n1 : Int) (R : Value → Heap → Prop) (h : Heap) : kit_Pick.body x0 n1 R h = evFn Try.prog Try.f17 kit_Pick.ann [(.int .i64 x0), (.int .i64 n1)] R h := by kernel_rfl
theorem kit_Pick.calls {x0 : Int} {n1 : Int} {R : Value → Heap → Prop} {h : Heap} (H : kit_Pick.body x0 n1 R h) : HC Try.prog F.kit_Pick #[(.int .i64 x0), (.int .i64 n1)] R h :=
  evFn_sound mixed Try.func17 (by kernel_rfl) (kit_Pick.eq x0 n1 R h ▸ H)

/-! (*zugzwang/tags.Maker).there -/
def tags_Maker_there.body (m0 : Option Addr) (R : Value → Heap → Prop) (h : Heap) : Prop :=
  if (!m0.isNone) = true then
  derefK m0 (fun (a_1 : Addr) =>
  fldK ((some a_1)) 0 (fun (a_2 : Addr) =>
  fldK ((some a_2)) 0 (fun (a_3 : Addr) =>
  loadK .map h ((some a_3)) (fun (v_4 : Option Nat) =>
  R (.bool (!v_4.isNone)) h))))
  else
  R (.bool false) h
def tags_Maker_there.ann : Ann := (.seq .leaf (.seq .leaf .leaf))
theorem tags_Maker_there.eq (m0 : Option Addr) (R : Value → Heap → Prop) (h : Heap) : tags_Maker_there.body m0 R h = evFn Try.prog Try.f25 tags_Maker_there.ann [(.pointer m0)] R h := by kernel_rfl
theorem tags_Maker_there.calls {m0 : Option Addr} {R : Value → Heap → Prop} {h : Heap} (H : tags_Maker_there.body m0 R h) : HC Try.prog F.tags_Maker_there #[(.pointer m0)] R h :=
  evFn_sound mixed Try.func25 (by kernel_rfl) (tags_Maker_there.eq m0 R h ▸ H)

/-! (*zugzwang/draw.Draw).made -/
def draw_Draw_made.body (d0 : Option Addr) (R : Value → Heap → Prop) (h : Heap) : Prop :=
  if (!d0.isNone) = true then
  derefK d0 (fun (a_1 : Addr) =>
  fldK ((some a_1)) 133 (fun (a_2 : Addr) =>
  loadK (.int .i64) h ((some a_2)) (fun (v_3 : Int) =>
  R (.bool (v_3 != 0)) h)))
  else
  R (.bool false) h
def draw_Draw_made.ann : Ann := (.seq .leaf (.seq .leaf .leaf))
theorem draw_Draw_made.eq (d0 : Option Addr) (R : Value → Heap → Prop) (h : Heap) : draw_Draw_made.body d0 R h = evFn Try.prog Try.f18 draw_Draw_made.ann [(.pointer d0)] R h := by kernel_rfl
theorem draw_Draw_made.calls {d0 : Option Addr} {R : Value → Heap → Prop} {h : Heap} (H : draw_Draw_made.body d0 R h) : HC Try.prog F.draw_Draw_made #[(.pointer d0)] R h :=
  evFn_sound mixed Try.func18 (by kernel_rfl) (draw_Draw_made.eq d0 R h ▸ H)

/-! (*zugzwang/codec.Writer).Tag$1 -/
def codec_Writer_Tag_1.body (t0 : Array Value) (R : Value → Heap → Prop) (h : Heap) : Prop :=
  newK h t0 T.api_Tag (fun (t_1 : Option Addr) (h : Heap) =>
  sliceArrK t_1 32 none none none (sizeOfT Try.prog T.uint8) (fun (v_2 : Sl) =>
  R (.slice v_2.a v_2.n v_2.c) h))
def codec_Writer_Tag_1.ann : Ann := (.seq .leaf (.seq .leaf .leaf))
theorem codec_Writer_Tag_1.eq (t0 : Array Value) (R : Value → Heap → Prop) (h : Heap) : codec_Writer_Tag_1.body t0 R h = evFn Try.prog Try.f76 codec_Writer_Tag_1.ann [(.agg t0)] R h := by kernel_rfl
theorem codec_Writer_Tag_1.calls {t0 : Array Value} {R : Value → Heap → Prop} {h : Heap} (H : codec_Writer_Tag_1.body t0 R h) : HC Try.prog F.codec_Writer_Tag_1 #[(.agg t0)] R h :=
  evFn_sound mixed Try.func76 (by kernel_rfl) (codec_Writer_Tag_1.eq t0 R h ▸ H)

/-! zugzwang/bits.Turn -/
def bits_Turn.body (x0 : Int) (n1 : Int) (R : Value → Heap → Prop) (h : Heap) : Prop :=
  divK 32
  (callK Try.prog (.int .u32) F.math_bits_RotateLeft32 #[(.int .u32 x0), (.int .i64 (IntKind.i64.wrap (0 - (Int.tmod n1 32))))] (fun (v_1 : Int) (h : Heap) =>
  R (.int .u32 v_1) h) h)
def bits_Turn.ann : Ann := (.seq .leaf (.seq .leaf .leaf))
theorem bits_Turn.eq (x0 : Int) (n1 : Int) (R : Value → Heap → Prop) (h : Heap) : bits_Turn.body x0 n1 R h = evFn Try.prog Try.f70 bits_Turn.ann [(.int .u32 x0), (.int .i64 n1)] R h := by kernel_rfl
theorem bits_Turn.calls {x0 : Int} {n1 : Int} {R : Value → Heap → Prop} {h : Heap} (H : bits_Turn.body x0 n1 R h) : HC Try.prog F.bits_Turn #[(.int .u32 x0), (.int .i64 n1)] R h :=
  evFn_sound mixed Try.func70 (by kernel_rfl) (bits_Turn.eq x0 n1 R h ▸ H)

/-! (*zugzwang/codec.state).sound -/
def codec_state_sound.body (s0 : Option Addr) (R : Value → Heap → Prop) (h : Heap) : Prop :=
  derefK s0 (fun (a_1 : Addr) =>
  fldK ((some a_1)) 1 (fun (a_2 : Addr) =>
  loadK (.int .i64) h ((some a_2)) (fun (v_3 : Int) =>
  R (.bool (v_3 == 0)) h)))
def codec_state_sound.ann : Ann := (.seq .leaf (.seq .leaf .leaf))
theorem codec_state_sound.eq (s0 : Option Addr) (R : Value → Heap → Prop) (h : Heap) : codec_state_sound.body s0 R h = evFn Try.prog Try.f77 codec_state_sound.ann [(.pointer s0)] R h := by kernel_rfl
theorem codec_state_sound.calls {s0 : Option Addr} {R : Value → Heap → Prop} {h : Heap} (H : codec_state_sound.body s0 R h) : HC Try.prog F.codec_state_sound #[(.pointer s0)] R h :=
  evFn_sound mixed Try.func77 (by kernel_rfl) (codec_state_sound.eq s0 R h ▸ H)

/-! zugzwang/digest.New -/
def digest_New.body  (R : Value → Heap → Prop) (h : Heap) : Prop :=
  callK Try.prog .agg F.digest_begun #[] (fun (v_1 : Array Value) (h : Heap) =>
  buildK Try.prog (Instr.build T.digest_Hasher #[(0, (.agg v_1)), (3, (.bool true))]) (fun (v_2 : Array Value) =>
  newK h v_2 T.digest_Hasher (fun (v_3 : Option Addr) (h : Heap) =>
  R (.pointer v_3) h))) h
def digest_New.ann : Ann := (.seq .leaf (.seq .leaf .leaf))
theorem digest_New.eq  (R : Value → Heap → Prop) (h : Heap) : digest_New.body  R h = evFn Try.prog Try.f36 digest_New.ann [] R h := by kernel_rfl
theorem digest_New.calls  {R : Value → Heap → Prop} {h : Heap} (H : digest_New.body  R h) : HC Try.prog F.digest_New #[] R h :=
  evFn_sound mixed Try.func36 (by kernel_rfl) (digest_New.eq  R h ▸ H)

/-! zugzwang/bits.Shift -/
def bits_Shift.body (x0 : Int) (n1 : Int) (R : Value → Heap → Prop) (h : Heap) : Prop :=
  shiftK (if n1 < 0 then 0 else n1)
  (R (.int .u32 (Int.fdiv x0 (2 ^ min (Int.toNat (if n1 < 0 then 0 else n1)) (IntKind.bits .u32)))) h)
def bits_Shift.ann : Ann := (.seq .leaf (.seq .leaf .leaf))
theorem bits_Shift.eq (x0 : Int) (n1 : Int) (R : Value → Heap → Prop) (h : Heap) : bits_Shift.body x0 n1 R h = evFn Try.prog Try.f58 bits_Shift.ann [(.int .u32 x0), (.int .i64 n1)] R h := by kernel_rfl
theorem bits_Shift.calls {x0 : Int} {n1 : Int} {R : Value → Heap → Prop} {h : Heap} (H : bits_Shift.body x0 n1 R h) : HC Try.prog F.bits_Shift #[(.int .u32 x0), (.int .i64 n1)] R h :=
  evFn_sound mixed Try.func58 (by kernel_rfl) (bits_Shift.eq x0 n1 R h ▸ H)

/-! zugzwang/codec.New -/
def codec_New.body  (R : Value → Heap → Prop) (h : Heap) : Prop :=
  buildK Try.prog (Instr.build T.codec_state #[(0, (.bool true))]) (fun (v_1 : Array Value) =>
  buildK Try.prog (Instr.build T.codec_Writer #[(0, (.agg v_1))]) (fun (v_2 : Array Value) =>
  newK h v_2 T.codec_Writer (fun (v_3 : Option Addr) (h : Heap) =>
  R (.pointer v_3) h)))
def codec_New.ann : Ann := (.seq .leaf (.seq .leaf .leaf))
theorem codec_New.eq  (R : Value → Heap → Prop) (h : Heap) : codec_New.body  R h = evFn Try.prog Try.f50 codec_New.ann [] R h := by kernel_rfl
theorem codec_New.calls  {R : Value → Heap → Prop} {h : Heap} (H : codec_New.body  R h) : HC Try.prog F.codec_New #[] R h :=
  evFn_sound mixed Try.func50 (by kernel_rfl) (codec_New.eq  R h ▸ H)

/-! zugzwang/msg.move$1 -/
def msg_move_1.body (s0 : Int) (R : Value → Heap → Prop) (h : Heap) : Prop :=
  if (decide (s0 ≥ 0)) = true then
  R (.bool (decide (s0 < 64))) h
  else
  R (.bool false) h
def msg_move_1.ann : Ann := (.seq .leaf (.seq .leaf .leaf))
theorem msg_move_1.eq (s0 : Int) (R : Value → Heap → Prop) (h : Heap) : msg_move_1.body s0 R h = evFn Try.prog Try.f78 msg_move_1.ann [(.int .i64 s0)] R h := by kernel_rfl
theorem msg_move_1.calls {s0 : Int} {R : Value → Heap → Prop} {h : Heap} (H : msg_move_1.body s0 R h) : HC Try.prog F.msg_move_1 #[(.int .i64 s0)] R h :=
  evFn_sound mixed Try.func78 (by kernel_rfl) (msg_move_1.eq s0 R h ▸ H)

/-! zugzwang/commit.bit -/
def commit_bit.body (n0 : Int) (R : Value → Heap → Prop) (h : Heap) : Prop :=
  if (n0 == 0) = true then
  R (.bool true) h
  else
  R (.bool (n0 == 1)) h
def commit_bit.ann : Ann := (.seq .leaf (.seq .leaf .leaf))
theorem commit_bit.eq (n0 : Int) (R : Value → Heap → Prop) (h : Heap) : commit_bit.body n0 R h = evFn Try.prog Try.f30 commit_bit.ann [(.int .i64 n0)] R h := by kernel_rfl
theorem commit_bit.calls {n0 : Int} {R : Value → Heap → Prop} {h : Heap} (H : commit_bit.body n0 R h) : HC Try.prog F.commit_bit #[(.int .i64 n0)] R h :=
  evFn_sound mixed Try.func30 (by kernel_rfl) (commit_bit.eq n0 R h ▸ H)

/-! zugzwang/msg.bit -/
def msg_bit.body (n0 : Int) (R : Value → Heap → Prop) (h : Heap) : Prop :=
  if (n0 == 0) = true then
  R (.bool true) h
  else
  R (.bool (n0 == 1)) h
def msg_bit.ann : Ann := (.seq .leaf (.seq .leaf .leaf))
theorem msg_bit.eq (n0 : Int) (R : Value → Heap → Prop) (h : Heap) : msg_bit.body n0 R h = evFn Try.prog Try.f34 msg_bit.ann [(.int .i64 n0)] R h := by kernel_rfl
theorem msg_bit.calls {n0 : Int} {R : Value → Heap → Prop} {h : Heap} (H : msg_bit.body n0 R h) : HC Try.prog F.msg_bit #[(.int .i64 n0)] R h :=
  evFn_sound mixed Try.func34 (by kernel_rfl) (msg_bit.eq n0 R h ▸ H)

end Go.Proofs.Ytgllngcoclnpeaa
