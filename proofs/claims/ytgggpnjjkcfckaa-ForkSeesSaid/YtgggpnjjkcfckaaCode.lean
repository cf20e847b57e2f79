import Derived.Test.YtgggpnjjkcfckaaSig
set_option linter.unusedVariables false
set_option maxRecDepth 100000
namespace Go.Proofs.Ytgggpnjjkcfckaa
open Go.Ev
/-! zugzwang/fork.both$1 -/
def fork_both_1.body (yield0 : Value) (x1 : Option Addr) (x2 : Option Addr) (R : Value → Heap → Prop) (h : Heap) : Prop :=
  loadK .slice h x1 (fun (v_1 : Sl) =>
  loadK .slice h x2 (fun (v_2 : Sl) =>
  loopW (fun X_4 (s_3 : Int) (h : Heap) =>
  if (decide (s_3 < (if ((v_2.n : Int)) < ((v_1.n : Int)) then ((v_2.n : Int)) else ((v_1.n : Int))))) = true then
  loadK .slice h x1 (fun (v_5 : Sl) =>
  idxK v_5 s_3 (sizeOfT Try.prog T.api_Entry) (fun (a_6 : Addr) =>
  loadAggK (sizeOfT Try.prog T.api_Entry) h ((some a_6)) (fun (v_7 : Array Value) =>
  loadK .slice h x2 (fun (v_8 : Sl) =>
  idxK v_8 s_3 (sizeOfT Try.prog T.api_Entry) (fun (a_9 : Addr) =>
  loadAggK (sizeOfT Try.prog T.api_Entry) h ((some a_9)) (fun (v_10 : Array Value) =>
  buildK Try.prog (Instr.build T.a2_api_Entry #[(0, (.agg v_7)), (1, (.agg v_10))]) (fun (v_11 : Array Value) =>
  callV Try.prog .bool yield0 #[(.int .i64 s_3), (.agg v_11)] (fun (v_12 : Bool) (h : Heap) =>
  if (!v_12) = true then
  R (.tuple #[]) h
  else
  X_4 (IntKind.i64.wrap (s_3 + 1)) h) h)))))))
  else
  R (.tuple #[]) h) 0 h))
def fork_both_1.ann : Ann := (.seq .leaf (.block (.loop [(10, (.int .i64))] (.seq .leaf (.seq (.cond .leaf .leaf) (.seq (.block (.seq .leaf (.seq (.any (.loc 0 (.loc 1 (.loc 3 (.loc 7 (.st 2 7216 (.loc 4 (.st 5 7168 (.st 6 7936 (.loc 8 (.st 9 7168 (.loc 10 (.last 11 (.loc 12 .done)))))))))))))) (.cond .leaf .leaf)))) .leaf))))))
theorem fork_both_1.eq (yield0 : Value) (x1 : Option Addr) (x2 : Option Addr) (R : Value → Heap → Prop) (h : Heap) : fork_both_1.body yield0 x1 x2 R h = evFn Try.prog Try.f30 fork_both_1.ann [yield0, (.pointer x1), (.pointer x2)] R h := by kernel_rfl
theorem fork_both_1.calls {yield0 : Value} {x1 : Option Addr} {x2 : Option Addr} {R : Value → Heap → Prop} {h : Heap} (H : fork_both_1.body yield0 x1 x2 R h) : HC Try.prog F.fork_both_1 #[yield0, (.pointer x1), (.pointer x2)] R h :=
  evFn_sound mixed Try.func30 (by kernel_rfl) (fork_both_1.eq yield0 x1 x2 R h ▸ H)

/-! zugzwang/fork.both -/
def fork_both.body (a0 : Sl) (b1 : Sl) (R : Value → Heap → Prop) (h : Heap) : Prop :=
  newK h #[(.slice a0.a a0.n a0.c)] T.sl_api_Entry (fun (a_1 : Option Addr) (h : Heap) =>
  newK h #[(.slice b1.a b1.n b1.c)] T.sl_api_Entry (fun (b_2 : Option Addr) (h : Heap) =>
  R ((Value.func (.func F.fork_both_1) #[] #[(.pointer a_1), (.pointer b_2)])) h))
def fork_both.ann : Ann := (.seq .leaf (.seq .leaf .leaf))
theorem fork_both.eq (a0 : Sl) (b1 : Sl) (R : Value → Heap → Prop) (h : Heap) : fork_both.body a0 b1 R h = evFn Try.prog Try.f23 fork_both.ann [(.slice a0.a a0.n a0.c), (.slice b1.a b1.n b1.c)] R h := by kernel_rfl
theorem fork_both.calls {a0 : Sl} {b1 : Sl} {R : Value → Heap → Prop} {h : Heap} (H : fork_both.body a0 b1 R h) : HC Try.prog F.fork_both #[(.slice a0.a a0.n a0.c), (.slice b1.a b1.n b1.c)] R h :=
  evFn_sound mixed Try.func23 (by kernel_rfl) (fork_both.eq a0 b1 R h ▸ H)

/-! cmp.isNaN[int] -/
def cmp_isNaN_int.body (x0 : Int) (R : Value → Heap → Prop) (h : Heap) : Prop :=
  R (.bool (x0 != x0)) h
def cmp_isNaN_int.ann : Ann := (.seq .leaf (.seq .leaf .leaf))
theorem cmp_isNaN_int.eq (x0 : Int) (R : Value → Heap → Prop) (h : Heap) : cmp_isNaN_int.body x0 R h = evFn Try.prog Try.f31 cmp_isNaN_int.ann [(.int .i64 x0)] R h := by kernel_rfl
theorem cmp_isNaN_int.calls {x0 : Int} {R : Value → Heap → Prop} {h : Heap} (H : cmp_isNaN_int.body x0 R h) : HC Try.prog F.cmp_isNaN_int #[(.int .i64 x0)] R h :=
  evFn_sound mixed Try.func31 (by kernel_rfl) (cmp_isNaN_int.eq x0 R h ▸ H)

/-! cmp.Compare[int] -/
def cmp_Compare_int.body (x0 : Int) (y1 : Int) (R : Value → Heap → Prop) (h : Heap) : Prop :=
  callK Try.prog .bool F.cmp_isNaN_int #[(.int .i64 x0)] (fun (v_1 : Bool) (h : Heap) =>
  callK Try.prog .bool F.cmp_isNaN_int #[(.int .i64 y1)] (fun (v_2 : Bool) (h : Heap) =>
  if v_1 = true then
  if v_2 = true then
  R (.int .i64 0) h
  else
  R (.int .i64 ((-1))) h
  else
  if v_2 = true then
  R (.int .i64 1) h
  else
  if (decide (x0 < y1)) = true then
  R (.int .i64 ((-1))) h
  else
  if (decide (x0 > y1)) = true then
  R (.int .i64 1) h
  else
  R (.int .i64 0) h) h) h
def cmp_Compare_int.ann : Ann := (.seq .leaf (.seq .leaf (.seq .leaf (.seq (.seq .leaf (.cond (.seq (.seq .leaf (.cond (.seq .leaf .leaf) .leaf)) (.seq .leaf .leaf)) .leaf)) (.seq (.seq .leaf (.cond (.seq .leaf .leaf) .leaf)) (.seq (.seq .leaf (.cond (.seq .leaf .leaf) .leaf)) (.seq (.seq .leaf (.cond (.seq .leaf .leaf) .leaf)) (.seq .leaf .leaf))))))))
theorem cmp_Compare_int.eq (x0 : Int) (y1 : Int) (R : Value → Heap → Prop) (h : Heap) : cmp_Compare_int.body x0 y1 R h = evFn Try.prog Try.f24 cmp_Compare_int.ann [(.int .i64 x0), (.int .i64 y1)] R h := by kernel_rfl
theorem cmp_Compare_int.calls {x0 : Int} {y1 : Int} {R : Value → Heap → Prop} {h : Heap} (H : cmp_Compare_int.body x0 y1 R h) : HC Try.prog F.cmp_Compare_int #[(.int .i64 x0), (.int .i64 y1)] R h :=
  evFn_sound mixed Try.func24 (by kernel_rfl) (cmp_Compare_int.eq x0 y1 R h ▸ H)

/-! zugzwang/fork.Compare -/
def fork_Compare.body (a0 : Sl) (b1 : Sl) (R : Value → Heap → Prop) (h : Heap) : Prop :=
  newK h (zerosOf Try.prog T.fork_Kind) T.fork_Kind (fun (k_1 : Option Addr) (h : Heap) =>
  newK h (zerosOf Try.prog T.int) T.int (fun (at_2 : Option Addr) (h : Heap) =>
  callK Try.prog .any F.fork_both #[(.slice a0.a a0.n a0.c), (.slice b1.a b1.n b1.c)] (fun (v_3 : Value) (h : Heap) =>
  (fun (h0_7 : Heap) => rangeK Try.prog v_3 [(11, (.int .i64)), (12, .agg)] (fun (beg_5 : Heap → (Heap → Prop) → Prop) (x_4 : Int × Array Value) (KY_6 : Exit → Heap → Prop) (h : Heap) =>
  newK h (zerosOf Try.prog T.a2_api_Entry) T.a2_api_Entry (fun (pair_8 : Option Addr) (h : Heap) =>
  storeAggK (sizeOfT Try.prog T.a2_api_Entry) h pair_8 x_4.2 (fun (h : Heap) =>
  beg_5 h (fun (h : Heap) =>
  idxArrK pair_8 2 0 (sizeOfT Try.prog T.api_Entry) (fun (a_9 : Addr) =>
  loadAggK (sizeOfT Try.prog T.api_Entry) h ((some a_9)) (fun (v_10 : Array Value) =>
  idxArrK pair_8 2 1 (sizeOfT Try.prog T.api_Entry) (fun (a_11 : Addr) =>
  loadAggK (sizeOfT Try.prog T.api_Entry) h ((some a_11)) (fun (v_12 : Array Value) =>
  eqK Try.prog (binSem .neq T.api_Entry (.tmp 14) (.tmp 16) (.agg v_10) (.agg v_12)) (fun (v_13 : Bool) =>
  if v_13 = true then
  storeK h k_1 (.int .i64 4) (fun (h : Heap) =>
  storeK h at_2 (.int .i64 x_4.1) (fun (h : Heap) =>
  KY_6 .ret h))
  else
  KY_6 .normal h)))))))))
  (fun (h : Heap) =>
  buildK Try.prog (Instr.build T.a3_fork_Kind #[(0, (.int .i64 2)), (1, (.int .i64 1)), (2, (.int .i64 3))]) (fun (v_14 : Array Value) =>
  callK Try.prog (.int .i64) F.cmp_Compare_int #[(.int .i64 ((a0.n : Int))), (.int .i64 ((b1.n : Int)))] (fun (v_15 : Int) (h : Heap) =>
  idxValK (.int .i64) v_14 3 (IntKind.i64.wrap (v_15 + 1)) (sizeOfT Try.prog T.fork_Kind) (fun (v_16 : Int) =>
  storeK h k_1 (.int .i64 v_16) (fun (h : Heap) =>
  storeK h at_2 (.int .i64 (if ((b1.n : Int)) < ((a0.n : Int)) then ((b1.n : Int)) else ((a0.n : Int)))) (fun (h : Heap) =>
  leaveK (some h0_7.size) h (fun (h : Heap) =>
  quietK Try.prog (.int .i64) (Instr.loadAt T.fork_Kind (.pointer k_1)) (fun (r_17 : Int) =>
  quietK Try.prog (.int .i64) (Instr.loadAt T.int (.pointer at_2)) (fun (r_18 : Int) =>
  R (.tuple #[(.int .i64 r_17), (.int .i64 r_18)]) h) h) h))))) h))
  (fun (h : Heap) =>
  leaveK (some h0_7.size) h (fun (h : Heap) =>
  quietK Try.prog (.int .i64) (Instr.loadAt T.fork_Kind (.pointer k_1)) (fun (r_19 : Int) =>
  quietK Try.prog (.int .i64) (Instr.loadAt T.int (.pointer at_2)) (fun (r_20 : Int) =>
  R (.tuple #[(.int .i64 r_19), (.int .i64 r_20)]) h) h) h)) h0_7) h) h))
def fork_Compare.ann : AnnR := (.seq (.plain .leaf) (.seq (.seq (.plain .leaf) (.block (.rf [(11, (.int .i64)), (12, .agg)] (.seq .leaf .leaf) (.block (.seq .leaf (.cond (.seq .leaf .leaf) .leaf)))))) (.plain (.seq .leaf .leaf))))
theorem fork_Compare.eq (a0 : Sl) (b1 : Sl) (R : Value → Heap → Prop) (h : Heap) : fork_Compare.body a0 b1 R h = evFnR Try.prog Try.f8 fork_Compare.ann [(.slice a0.a a0.n a0.c), (.slice b1.a b1.n b1.c)] R h := by kernel_rfl
theorem fork_Compare.calls {a0 : Sl} {b1 : Sl} {R : Value → Heap → Prop} {h : Heap} (H : fork_Compare.body a0 b1 R h) : HC Try.prog F.fork_Compare #[(.slice a0.a a0.n a0.c), (.slice b1.a b1.n b1.c)] R h :=
  evFnR_sound mixed Try.func8 (by kernel_rfl) (fork_Compare.eq a0 b1 R h ▸ H)

/-! zugzwang/fork.Rolled -/
def fork_Rolled.body (old0 : Sl) (now1 : Sl) (R : Value → Heap → Prop) (h : Heap) : Prop :=
  callK Try.prog (Kd.pair (.int .i64) (.int .i64)) F.fork_Compare #[(.slice now1.a now1.n now1.c), (.slice old0.a old0.n old0.c)] (fun (v_1 : Int × Int) (h : Heap) =>
  R (.bool (v_1.1 == 2)) h) h
def fork_Rolled.ann : Ann := (.seq .leaf (.seq .leaf (.seq .leaf .leaf)))
theorem fork_Rolled.eq (old0 : Sl) (now1 : Sl) (R : Value → Heap → Prop) (h : Heap) : fork_Rolled.body old0 now1 R h = evFn Try.prog Try.f10 fork_Rolled.ann [(.slice old0.a old0.n old0.c), (.slice now1.a now1.n now1.c)] R h := by kernel_rfl
theorem fork_Rolled.calls {old0 : Sl} {now1 : Sl} {R : Value → Heap → Prop} {h : Heap} (H : fork_Rolled.body old0 now1 R h) : HC Try.prog F.fork_Rolled #[(.slice old0.a old0.n old0.c), (.slice now1.a now1.n now1.c)] R h :=
  evFn_sound mixed Try.func10 (by kernel_rfl) (fork_Rolled.eq old0 now1 R h ▸ H)

/-! zugzwang/fork.Signer -/
def fork_Signer.body (n0 : Int) (R : Value → Heap → Prop) (h : Heap) : Prop :=
  divK 2
  (if ((Int.tmod n0 2) != 0) = true then
  R (.int .i64 1) h
  else
  R (.int .i64 0) h)
def fork_Signer.ann : Ann := (.seq .leaf (.seq (.seq .leaf (.cond (.seq .leaf .leaf) .leaf)) (.seq .leaf .leaf)))
theorem fork_Signer.eq (n0 : Int) (R : Value → Heap → Prop) (h : Heap) : fork_Signer.body n0 R h = evFn Try.prog Try.f12 fork_Signer.ann [(.int .i64 n0)] R h := by kernel_rfl
theorem fork_Signer.calls {n0 : Int} {R : Value → Heap → Prop} {h : Heap} (H : fork_Signer.body n0 R h) : HC Try.prog F.fork_Signer #[(.int .i64 n0)] R h :=
  evFn_sound mixed Try.func12 (by kernel_rfl) (fork_Signer.eq n0 R h ▸ H)

/-! zugzwang/zugzwanglaw21.real -/
def law21_real.body  (R : Value → Heap → Prop) (h : Heap) : Prop :=
  buildK Try.prog (Instr.build T.zugzwangref04_Maker #[(0, (.bool true))]) (fun (v_1 : Array Value) =>
  newK h v_1 T.zugzwangref04_Maker (fun (v_2 : Option Addr) (h : Heap) =>
  R (.pointer v_2) h))
def law21_real.ann : Ann := (.seq .leaf (.seq .leaf .leaf))
theorem law21_real.eq  (R : Value → Heap → Prop) (h : Heap) : law21_real.body  R h = evFn Try.prog Try.f27 law21_real.ann [] R h := by kernel_rfl
theorem law21_real.calls  {R : Value → Heap → Prop} {h : Heap} (H : law21_real.body  R h) : HC Try.prog F.law21_real #[] R h :=
  evFn_sound mixed Try.func27 (by kernel_rfl) (law21_real.eq  R h ▸ H)

/-! zugzwang/zugzwangref18.move -/
def ref18_move.body (m0 : Array Value) (R : Value → Heap → Prop) (h : Heap) : Prop :=
  newK h m0 T.api_Move (fun (m_1 : Option Addr) (h : Heap) =>
  fldK m_1 0 (fun (a_2 : Addr) =>
  loadK (.int .i64) h ((some a_2)) (fun (v_3 : Int) =>
  if (decide (v_3 ≥ 0)) = true then
  fldK m_1 0 (fun (a_4 : Addr) =>
  loadK (.int .i64) h ((some a_4)) (fun (v_5 : Int) =>
  if (decide (v_5 < 64)) = true then
  fldK m_1 1 (fun (a_6 : Addr) =>
  loadK (.int .i64) h ((some a_6)) (fun (v_7 : Int) =>
  if (decide (v_7 ≥ 0)) = true then
  fldK m_1 1 (fun (a_8 : Addr) =>
  loadK (.int .i64) h ((some a_8)) (fun (v_9 : Int) =>
  if (decide (v_9 < 64)) = true then
  fldK m_1 2 (fun (a_10 : Addr) =>
  loadK (.int .i64) h ((some a_10)) (fun (v_11 : Int) =>
  if (v_11 == 0) = true then
  R (.bool true) h
  else
  fldK m_1 2 (fun (a_12 : Addr) =>
  loadK (.int .i64) h ((some a_12)) (fun (v_13 : Int) =>
  if (decide (v_13 ≥ 2)) = true then
  fldK m_1 2 (fun (a_14 : Addr) =>
  loadK (.int .i64) h ((some a_14)) (fun (v_15 : Int) =>
  R (.bool (decide (v_15 ≤ 5))) h))
  else
  R (.bool false) h))))
  else
  R (.bool false) h))
  else
  R (.bool false) h))
  else
  R (.bool false) h))
  else
  R (.bool false) h)))
def ref18_move.ann : Ann := (.seq .leaf (.seq .leaf .leaf))
theorem ref18_move.eq (m0 : Array Value) (R : Value → Heap → Prop) (h : Heap) : ref18_move.body m0 R h = evFn Try.prog Try.f34 ref18_move.ann [(.agg m0)] R h := by kernel_rfl
theorem ref18_move.calls {m0 : Array Value} {R : Value → Heap → Prop} {h : Heap} (H : ref18_move.body m0 R h) : HC Try.prog F.ref18_move #[(.agg m0)] R h :=
  evFn_sound mixed Try.func34 (by kernel_rfl) (ref18_move.eq m0 R h ▸ H)

/-! zugzwang/zugzwangref18.Body -/
def ref18_Body.body (b0 : Array Value) (R : Value → Heap → Prop) (h : Heap) : Prop :=
  newK h b0 T.api_Body (fun (b_1 : Option Addr) (h : Heap) =>
  fldK b_1 0 (fun (a_2 : Addr) =>
  loadK (.int .i64) h ((some a_2)) (fun (v_3 : Int) =>
  buildK Try.prog (Instr.build T.api_Body #[(0, (.int .i64 v_3))]) (fun (v_4 : Array Value) =>
  newK h (zerosOf Try.prog T.api_Body) T.api_Body (fun (has_5 : Option Addr) (h : Heap) =>
  storeAggK (sizeOfT Try.prog T.api_Body) h has_5 v_4 (fun (h : Heap) =>
  joinW (fun (s_6 : Unit) (h : Heap) =>
  loadAggK (sizeOfT Try.prog T.api_Body) h has_5 (fun (v_7 : Array Value) =>
  loadAggK (sizeOfT Try.prog T.api_Body) h b_1 (fun (v_8 : Array Value) =>
  eqK Try.prog (binSem .eql T.api_Body (.tmp 47) (.tmp 48) (.agg v_7) (.agg v_8)) (fun (v_9 : Bool) =>
  if v_9 = true then
  fldK b_1 0 (fun (a_10 : Addr) =>
  loadK (.int .i64) h ((some a_10)) (fun (v_11 : Int) =>
  if (v_11 != 1) = true then
  fldK b_1 0 (fun (a_12 : Addr) =>
  loadK (.int .i64) h ((some a_12)) (fun (v_13 : Int) =>
  if (v_13 != 7) = true then
  R (.bool true) h
  else
  fldK b_1 1 (fun (a_14 : Addr) =>
  loadAggK (sizeOfT Try.prog T.api_Move) h ((some a_14)) (fun (v_15 : Array Value) =>
  callK Try.prog .bool F.ref18_move #[(.agg v_15)] (fun (v_16 : Bool) (h : Heap) =>
  R (.bool v_16) h) h))))
  else
  fldK b_1 1 (fun (a_17 : Addr) =>
  loadAggK (sizeOfT Try.prog T.api_Move) h ((some a_17)) (fun (v_18 : Array Value) =>
  callK Try.prog .bool F.ref18_move #[(.agg v_18)] (fun (v_19 : Bool) (h : Heap) =>
  R (.bool v_19) h) h))))
  else
  R (.bool false) h))))
  (fun J_20 =>
  fldK b_1 0 (fun (a_21 : Addr) =>
  loadK (.int .i64) h ((some a_21)) (fun (v_22 : Int) =>
  if (v_22 == 1) = true then
  fldK b_1 1 (fun (a_23 : Addr) =>
  loadAggK (sizeOfT Try.prog T.api_Move) h ((some a_23)) (fun (v_24 : Array Value) =>
  fldK has_5 1 (fun (a_25 : Addr) =>
  storeAggK (sizeOfT Try.prog T.api_Move) h ((some a_25)) v_24 (fun (h : Heap) =>
  fldK b_1 4 (fun (a_26 : Addr) =>
  loadK .bool h ((some a_26)) (fun (v_27 : Bool) =>
  fldK has_5 4 (fun (a_28 : Addr) =>
  storeK h ((some a_28)) (.bool v_27) (fun (h : Heap) =>
  J_20 () h))))))))
  else
  if (v_22 == 2) = true then
  fldK b_1 5 (fun (a_29 : Addr) =>
  loadK (.int .i64) h ((some a_29)) (fun (v_30 : Int) =>
  fldK has_5 5 (fun (a_31 : Addr) =>
  storeK h ((some a_31)) (.int .i64 v_30) (fun (h : Heap) =>
  fldK b_1 5 (fun (a_32 : Addr) =>
  loadK (.int .i64) h ((some a_32)) (fun (v_33 : Int) =>
  if (v_33 != 6) = true then
  fldK b_1 5 (fun (a_34 : Addr) =>
  loadK (.int .i64) h ((some a_34)) (fun (v_35 : Int) =>
  if (v_35 != 7) = true then
  R (.bool false) h
  else
  J_20 () h))
  else
  J_20 () h))))))
  else
  joinW (fun (s_36 : Bool) (h : Heap) =>
  if s_36 = true then
  J_20 () h
  else
  if (v_22 == 5) = true then
  fldK b_1 6 (fun (a_37 : Addr) =>
  loadAggK (sizeOfT Try.prog T.api_Tag) h ((some a_37)) (fun (v_38 : Array Value) =>
  fldK has_5 6 (fun (a_39 : Addr) =>
  storeAggK (sizeOfT Try.prog T.api_Tag) h ((some a_39)) v_38 (fun (h : Heap) =>
  J_20 () h))))
  else
  if (v_22 == 7) = true then
  fldK b_1 1 (fun (a_40 : Addr) =>
  loadAggK (sizeOfT Try.prog T.api_Move) h ((some a_40)) (fun (v_41 : Array Value) =>
  fldK has_5 1 (fun (a_42 : Addr) =>
  storeAggK (sizeOfT Try.prog T.api_Move) h ((some a_42)) v_41 (fun (h : Heap) =>
  fldK b_1 38 (fun (a_43 : Addr) =>
  loadAggK (sizeOfT Try.prog T.api_Tag) h ((some a_43)) (fun (v_44 : Array Value) =>
  fldK has_5 38 (fun (a_45 : Addr) =>
  storeAggK (sizeOfT Try.prog T.api_Tag) h ((some a_45)) v_44 (fun (h : Heap) =>
  J_20 () h))))))))
  else
  R (.bool false) h)
  (fun J_46 =>
  if (v_22 == 3) = true then
  J_46 (v_22 == 3) h
  else
  if (v_22 == 4) = true then
  J_46 (v_22 == 4) h
  else
  J_46 (v_22 == 6) h))))))))))
def ref18_Body.ann : Ann := (.seq .leaf (.seq .leaf (.join [] (.seq .leaf (.block (.seq .leaf (.cond (.seq .leaf .leaf) (.seq .leaf (.cond (.seq .leaf (.seq .leaf (.cond (.seq .leaf .leaf) .leaf))) (.join [(30, .bool)] (.seq .leaf (.cond .leaf (.seq .leaf (.cond .leaf .leaf)))) (.cond .leaf (.seq .leaf (.cond .leaf (.seq .leaf (.cond (.seq .leaf .leaf) (.seq .leaf .leaf))))))))))))) (.seq .leaf .leaf))))
theorem ref18_Body.eq (b0 : Array Value) (R : Value → Heap → Prop) (h : Heap) : ref18_Body.body b0 R h = evFn Try.prog Try.f32 ref18_Body.ann [(.agg b0)] R h := by kernel_rfl
theorem ref18_Body.calls {b0 : Array Value} {R : Value → Heap → Prop} {h : Heap} (H : ref18_Body.body b0 R h) : HC Try.prog F.ref18_Body #[(.agg b0)] R h :=
  evFn_sound mixed Try.func32 (by kernel_rfl) (ref18_Body.eq b0 R h ▸ H)

/-! zugzwang/zugzwangref02.filled -/
def ref02_filled.body (b0 : Sl) (R : Value → Heap → Prop) (h : Heap) : Prop :=
  newSlK h 0 #[] T.uint8 (fun (v_1 : Sl) (h : Heap) =>
  opK Try.prog .slice (Builtin.append_ #[T.sl_uint8, T.sl_uint8] T.sl_uint8 #[(.slice v_1.a v_1.n v_1.c), (.slice b0.a b0.n b0.c)]) (fun (v_2 : Sl) (h : Heap) =>
  newSlK h 1 #[(.int .u8 128)] T.uint8 (fun (v_3 : Sl) (h : Heap) =>
  opK Try.prog .slice (Builtin.append_ #[T.sl_uint8, T.sl_uint8] T.sl_uint8 #[(.slice v_2.a v_2.n v_2.c), (.slice v_3.a v_3.n v_3.c)]) (fun (v_4 : Sl) (h : Heap) =>
  loopW (fun X_6 (s_5 : Sl) (h : Heap) =>
  divK 64
  (if ((Int.tmod ((s_5.n : Int)) 64) != 56) = true then
  newSlK h 1 #[(.int .u8 0)] T.uint8 (fun (v_7 : Sl) (h : Heap) =>
  opK Try.prog .slice (Builtin.append_ #[T.sl_uint8, T.sl_uint8] T.sl_uint8 #[(.slice s_5.a s_5.n s_5.c), (.slice v_7.a v_7.n v_7.c)]) (fun (v_8 : Sl) (h : Heap) =>
  X_6 v_8 h) h)
  else
  loopW (fun X_10 (s_9 : Sl × Int) (h : Heap) =>
  if (decide (s_9.2 ≥ 0)) = true then
  shiftK (IntKind.i64.wrap (8 * s_9.2))
  (newSlK h 1 #[(.int .u8 (IntKind.u8.wrap (Int.fdiv (IntKind.i64.wrap (8 * ((b0.n : Int)))) (2 ^ min (Int.toNat (IntKind.i64.wrap (8 * s_9.2))) (IntKind.bits .i64)))))] T.uint8 (fun (v_11 : Sl) (h : Heap) =>
  opK Try.prog .slice (Builtin.append_ #[T.sl_uint8, T.sl_uint8] T.sl_uint8 #[(.slice s_9.1.a s_9.1.n s_9.1.c), (.slice v_11.a v_11.n v_11.c)]) (fun (v_12 : Sl) (h : Heap) =>
  X_10 (v_12, IntKind.i64.wrap (s_9.2 - 1)) h) h))
  else
  R (.slice s_9.1.a s_9.1.n s_9.1.c) h) (s_5, 7) h)) v_4 h) h)) h)
def ref02_filled.ann : Ann := (.seq .leaf (.seq .leaf (.seq (.block (.loop [(3, .slice)] (.seq (.seq .leaf (.cond .leaf .leaf)) (.block .leaf)))) (.seq .leaf (.seq (.seq .leaf (.block (.loop [(3, .slice), (5, (.int .i64))] (.seq (.seq .leaf (.cond .leaf .leaf)) (.seq (.block .leaf) .leaf))))) (.seq .leaf .leaf))))))
theorem ref02_filled.eq (b0 : Sl) (R : Value → Heap → Prop) (h : Heap) : ref02_filled.body b0 R h = evFn Try.prog Try.f43 ref02_filled.ann [(.slice b0.a b0.n b0.c)] R h := by kernel_rfl
theorem ref02_filled.calls {b0 : Sl} {R : Value → Heap → Prop} {h : Heap} (H : ref02_filled.body b0 R h) : HC Try.prog F.ref02_filled #[(.slice b0.a b0.n b0.c)] R h :=
  evFn_sound mixed Try.func43 (by kernel_rfl) (ref02_filled.eq b0 R h ▸ H)

/-! zugzwang/zugzwangref02.constants -/
def ref02_constants.body  (R : Value → Heap → Prop) (h : Heap) : Prop :=
  newSlK h 64 #[(.int .u32 1116352408), (.int .u32 1899447441), (.int .u32 3049323471), (.int .u32 3921009573), (.int .u32 961987163), (.int .u32 1508970993), (.int .u32 2453635748), (.int .u32 2870763221), (.int .u32 3624381080), (.int .u32 310598401), (.int .u32 607225278), (.int .u32 1426881987), (.int .u32 1925078388), (.int .u32 2162078206), (.int .u32 2614888103), (.int .u32 3248222580), (.int .u32 3835390401), (.int .u32 4022224774), (.int .u32 264347078), (.int .u32 604807628), (.int .u32 770255983), (.int .u32 1249150122), (.int .u32 1555081692), (.int .u32 1996064986), (.int .u32 2554220882), (.int .u32 2821834349), (.int .u32 2952996808), (.int .u32 3210313671), (.int .u32 3336571891), (.int .u32 3584528711), (.int .u32 113926993), (.int .u32 338241895), (.int .u32 666307205), (.int .u32 773529912), (.int .u32 1294757372), (.int .u32 1396182291), (.int .u32 1695183700), (.int .u32 1986661051), (.int .u32 2177026350), (.int .u32 2456956037), (.int .u32 2730485921), (.int .u32 2820302411), (.int .u32 3259730800), (.int .u32 3345764771), (.int .u32 3516065817), (.int .u32 3600352804), (.int .u32 4094571909), (.int .u32 275423344), (.int .u32 430227734), (.int .u32 506948616), (.int .u32 659060556), (.int .u32 883997877), (.int .u32 958139571), (.int .u32 1322822218), (.int .u32 1537002063), (.int .u32 1747873779), (.int .u32 1955562222), (.int .u32 2024104815), (.int .u32 2227730452), (.int .u32 2361852424), (.int .u32 2428436474), (.int .u32 2756734187), (.int .u32 3204031479), (.int .u32 3329325298)] T.uint32 (fun (v_1 : Sl) (h : Heap) =>
  R (.slice v_1.a v_1.n v_1.c) h)
def ref02_constants.ann : Ann := (.seq .leaf (.seq .leaf .leaf))
theorem ref02_constants.eq  (R : Value → Heap → Prop) (h : Heap) : ref02_constants.body  R h = evFn Try.prog Try.f44 ref02_constants.ann [] R h := by kernel_rfl
theorem ref02_constants.calls  {R : Value → Heap → Prop} {h : Heap} (H : ref02_constants.body  R h) : HC Try.prog F.ref02_constants #[] R h :=
  evFn_sound mixed Try.func44 (by kernel_rfl) (ref02_constants.eq  R h ▸ H)

/-! zugzwang/zugzwangref02.begin -/
def ref02_begin.body  (R : Value → Heap → Prop) (h : Heap) : Prop :=
  newSlK h 8 #[(.int .u32 1779033703), (.int .u32 3144134277), (.int .u32 1013904242), (.int .u32 2773480762), (.int .u32 1359893119), (.int .u32 2600822924), (.int .u32 528734635), (.int .u32 1541459225)] T.uint32 (fun (v_1 : Sl) (h : Heap) =>
  R (.slice v_1.a v_1.n v_1.c) h)
def ref02_begin.ann : Ann := (.seq .leaf (.seq .leaf .leaf))
theorem ref02_begin.eq  (R : Value → Heap → Prop) (h : Heap) : ref02_begin.body  R h = evFn Try.prog Try.f45 ref02_begin.ann [] R h := by kernel_rfl
theorem ref02_begin.calls  {R : Value → Heap → Prop} {h : Heap} (H : ref02_begin.body  R h) : HC Try.prog F.ref02_begin #[] R h :=
  evFn_sound mixed Try.func45 (by kernel_rfl) (ref02_begin.eq  R h ▸ H)

/-! zugzwang/zugzwangref01.Sum -/
def ref01_Sum.body (words0 : Sl) (R : Value → Heap → Prop) (h : Heap) : Prop :=
  loopW (fun X_2 (s_1 : Int × Int) (h : Heap) =>
  if (decide (s_1.2 < ((words0.n : Int)))) = true then
  idxK words0 s_1.2 (sizeOfT Try.prog T.uint32) (fun (a_3 : Addr) =>
  loadK (.int .u32) h ((some a_3)) (fun (v_4 : Int) =>
  divK 4294967296
  (X_2 (Int.tmod (IntKind.u64.wrap (s_1.1 + (IntKind.u64.wrap v_4))) 4294967296, IntKind.i64.wrap (s_1.2 + 1)) h)))
  else
  R (.int .u32 (IntKind.u32.wrap s_1.1)) h) (0, 0) h
def ref01_Sum.ann : Ann := (.seq .leaf (.seq .leaf (.seq (.seq .leaf (.block (.loop [(3, (.int .u64)), (4, (.int .i64))] (.seq (.seq .leaf (.cond .leaf .leaf)) (.seq (.block .leaf) .leaf))))) (.seq .leaf .leaf))))
theorem ref01_Sum.eq (words0 : Sl) (R : Value → Heap → Prop) (h : Heap) : ref01_Sum.body words0 R h = evFn Try.prog Try.f47 ref01_Sum.ann [(.slice words0.a words0.n words0.c)] R h := by kernel_rfl
theorem ref01_Sum.calls {words0 : Sl} {R : Value → Heap → Prop} {h : Heap} (H : ref01_Sum.body words0 R h) : HC Try.prog F.ref01_Sum #[(.slice words0.a words0.n words0.c)] R h :=
  evFn_sound mixed Try.func47 (by kernel_rfl) (ref01_Sum.eq words0 R h ▸ H)

/-! zugzwang/zugzwangref01.Words -/
def ref01_Words.body (b0 : Sl) (R : Value → Heap → Prop) (h : Heap) : Prop :=
  divK 4
  (if ((Int.tmod ((b0.n : Int)) 4) != 0) = true then
  R (.tuple #[(.slice none 0 0), (.int .i64 4)]) h
  else
  loopW (fun X_2 (s_1 : Sl × Int) (h : Heap) =>
  if (decide (s_1.2 < ((b0.n : Int)))) = true then
  idxK b0 s_1.2 (sizeOfT Try.prog T.uint8) (fun (a_3 : Addr) =>
  idxK b0 (IntKind.i64.wrap (s_1.2 + 1)) (sizeOfT Try.prog T.uint8) (fun (a_4 : Addr) =>
  idxK b0 (IntKind.i64.wrap (s_1.2 + 2)) (sizeOfT Try.prog T.uint8) (fun (a_5 : Addr) =>
  idxK b0 (IntKind.i64.wrap (s_1.2 + 3)) (sizeOfT Try.prog T.uint8) (fun (a_6 : Addr) =>
  loadK (.int .u8) h ((some a_3)) (fun (v_7 : Int) =>
  loadK (.int .u8) h ((some a_4)) (fun (v_8 : Int) =>
  loadK (.int .u8) h ((some a_5)) (fun (v_9 : Int) =>
  loadK (.int .u8) h ((some a_6)) (fun (v_10 : Int) =>
  newSlK h 1 #[(.int .u32 (IntKind.u32.wrap ((IntKind.u32.wrap ((IntKind.u32.wrap ((IntKind.u32.wrap ((IntKind.u32.wrap v_7) * 16777216)) + (IntKind.u32.wrap ((IntKind.u32.wrap v_8) * 65536)))) + (IntKind.u32.wrap ((IntKind.u32.wrap v_9) * 256)))) + (IntKind.u32.wrap v_10))))] T.uint32 (fun (v_11 : Sl) (h : Heap) =>
  opK Try.prog .slice (Builtin.append_ #[T.sl_uint32, T.sl_uint32] T.sl_uint32 #[(.slice s_1.1.a s_1.1.n s_1.1.c), (.slice v_11.a v_11.n v_11.c)]) (fun (v_12 : Sl) (h : Heap) =>
  X_2 (v_12, IntKind.i64.wrap (s_1.2 + 4)) h) h)))))))))
  else
  R (.tuple #[(.slice s_1.1.a s_1.1.n s_1.1.c), (.int .i64 0)]) h) (⟨none, 0, 0⟩, 0) h)
def ref01_Words.ann : Ann := (.seq .leaf (.seq (.seq .leaf (.cond (.seq .leaf .leaf) .leaf)) (.seq .leaf (.seq (.seq .leaf (.block (.loop [(4, .slice), (5, (.int .i64))] (.seq (.seq .leaf (.cond .leaf .leaf)) (.seq (.block (.any (.loc 0 (.loc 1 (.loc 2 (.loc 3 (.loc 7 (.loc 8 (.loc 9 (.loc 10 (.loc 15 (.loc 16 (.loc 17 (.loc 18 (.loc 23 (.loc 24 (.loc 25 (.loc 26 (.st 4 8057274464 (.loc 5 (.loc 6 (.st 11 8057286656 (.loc 12 (.loc 13 (.loc 14 (.st 19 8060403712 (.loc 20 (.loc 21 (.loc 22 (.st 27 8321499136 (.loc 28 (.loc 29 (.last 30 (.last 31 (.loc 32 .done))))))))))))))))))))))))))))))))))) .leaf))))) (.seq .leaf .leaf)))))
theorem ref01_Words.eq (b0 : Sl) (R : Value → Heap → Prop) (h : Heap) : ref01_Words.body b0 R h = evFn Try.prog Try.f56 ref01_Words.ann [(.slice b0.a b0.n b0.c)] R h := by kernel_rfl
theorem ref01_Words.calls {b0 : Sl} {R : Value → Heap → Prop} {h : Heap} (H : ref01_Words.body b0 R h) : HC Try.prog F.ref01_Words #[(.slice b0.a b0.n b0.c)] R h :=
  evFn_sound mixed Try.func56 (by kernel_rfl) (ref01_Words.eq b0 R h ▸ H)

/-! zugzwang/zugzwangref01.bit -/
def ref01_bit.body (x0 : Int) (k1 : Int) (R : Value → Heap → Prop) (h : Heap) : Prop :=
  shiftK k1
  (divK 2
  (R (.bool ((Int.tmod (Int.fdiv x0 (2 ^ min (Int.toNat k1) (IntKind.bits .u32))) 2) == 1)) h))
def ref01_bit.ann : Ann := (.seq .leaf (.seq .leaf .leaf))
theorem ref01_bit.eq (x0 : Int) (k1 : Int) (R : Value → Heap → Prop) (h : Heap) : ref01_bit.body x0 k1 R h = evFn Try.prog Try.f58 ref01_bit.ann [(.int .u32 x0), (.int .i64 k1)] R h := by kernel_rfl
theorem ref01_bit.calls {x0 : Int} {k1 : Int} {R : Value → Heap → Prop} {h : Heap} (H : ref01_bit.body x0 k1 R h) : HC Try.prog F.ref01_bit #[(.int .u32 x0), (.int .i64 k1)] R h :=
  evFn_sound mixed Try.func58 (by kernel_rfl) (ref01_bit.eq x0 k1 R h ▸ H)

/-! zugzwang/zugzwangref01.low -/
def ref01_low.body (n0 : Int) (R : Value → Heap → Prop) (h : Heap) : Prop :=
  divK 32
  (if (decide ((Int.tmod n0 32) < 0)) = true then
  R (.int .i64 (IntKind.i64.wrap ((Int.tmod n0 32) + 32))) h
  else
  R (.int .i64 (Int.tmod n0 32)) h)
def ref01_low.ann : Ann := (.seq .leaf (.seq .leaf (.seq (.seq .leaf (.cond .leaf .leaf)) (.seq .leaf .leaf))))
theorem ref01_low.eq (n0 : Int) (R : Value → Heap → Prop) (h : Heap) : ref01_low.body n0 R h = evFn Try.prog Try.f59 ref01_low.ann [(.int .i64 n0)] R h := by kernel_rfl
theorem ref01_low.calls {n0 : Int} {R : Value → Heap → Prop} {h : Heap} (H : ref01_low.body n0 R h) : HC Try.prog F.ref01_low #[(.int .i64 n0)] R h :=
  evFn_sound mixed Try.func59 (by kernel_rfl) (ref01_low.eq n0 R h ▸ H)

/-! zugzwang/zugzwangref01.place -/
def ref01_place.body (k0 : Int) (one1 : Bool) (R : Value → Heap → Prop) (h : Heap) : Prop :=
  if one1 = true then
  shiftK k0
  (R (.int .u32 (IntKind.u32.wrap (1 * 2 ^ min (Int.toNat k0) (IntKind.bits .u32)))) h)
  else
  R (.int .u32 0) h
def ref01_place.ann : Ann := (.seq .leaf (.seq (.seq .leaf (.cond (.seq .leaf .leaf) .leaf)) (.seq .leaf .leaf)))
theorem ref01_place.eq (k0 : Int) (one1 : Bool) (R : Value → Heap → Prop) (h : Heap) : ref01_place.body k0 one1 R h = evFn Try.prog Try.f60 ref01_place.ann [(.int .i64 k0), (.bool one1)] R h := by kernel_rfl
theorem ref01_place.calls {k0 : Int} {one1 : Bool} {R : Value → Heap → Prop} {h : Heap} (H : ref01_place.body k0 one1 R h) : HC Try.prog F.ref01_place #[(.int .i64 k0), (.bool one1)] R h :=
  evFn_sound mixed Try.func60 (by kernel_rfl) (ref01_place.eq k0 one1 R h ▸ H)

/-! zugzwang/zugzwangref01.Mix -/
def ref01_Mix.body (x0 : Int) (turns1 : Sl) (R : Value → Heap → Prop) (h : Heap) : Prop :=
  loopW (fun X_2 (s_1 : Int × Int) (h : Heap) =>
  if (decide (s_1.2 < 32)) = true then
  loopW (fun X_4 (s_3 : Bool × Int) (h : Heap) =>
  if (decide (s_3.2 < ((turns1.n : Int)))) = true then
  idxK turns1 s_3.2 (sizeOfT Try.prog T.int) (fun (a_5 : Addr) =>
  loadK (.int .i64) h ((some a_5)) (fun (v_6 : Int) =>
  callK Try.prog (.int .i64) F.ref01_low #[(.int .i64 v_6)] (fun (v_7 : Int) (h : Heap) =>
  divK 32
  (callK Try.prog .bool F.ref01_bit #[(.int .u32 x0), (.int .i64 (Int.tmod (IntKind.i64.wrap (s_1.2 + v_7)) 32))] (fun (v_8 : Bool) (h : Heap) =>
  if v_8 = true then
  X_4 (!s_3.1, IntKind.i64.wrap (s_3.2 + 1)) h
  else
  X_4 (s_3.1, IntKind.i64.wrap (s_3.2 + 1)) h) h)) h))
  else
  callK Try.prog (.int .u32) F.ref01_place #[(.int .i64 s_1.2), (.bool s_3.1)] (fun (v_9 : Int) (h : Heap) =>
  X_2 (IntKind.u32.wrap (s_1.1 + v_9), IntKind.i64.wrap (s_1.2 + 1)) h) h) (false, 0) h
  else
  R (.int .u32 s_1.1) h) (0, 0) h
def ref01_Mix.ann : Ann := (.seq .leaf (.seq .leaf (.seq (.seq .leaf (.block (.loop [(5, (.int .u32)), (6, (.int .i64))] (.seq (.seq .leaf (.cond .leaf .leaf)) (.seq (.block (.seq .leaf (.seq (.seq .leaf (.block (.loop [(7, .bool), (8, (.int .i64))] (.seq (.seq .leaf (.cond .leaf .leaf)) (.seq (.block (.seq .leaf (.cond .leaf .leaf))) .leaf))))) .leaf))) .leaf))))) (.seq .leaf .leaf))))
theorem ref01_Mix.eq (x0 : Int) (turns1 : Sl) (R : Value → Heap → Prop) (h : Heap) : ref01_Mix.body x0 turns1 R h = evFn Try.prog Try.f48 ref01_Mix.ann [(.int .u32 x0), (.slice turns1.a turns1.n turns1.c)] R h := by kernel_rfl
theorem ref01_Mix.calls {x0 : Int} {turns1 : Sl} {R : Value → Heap → Prop} {h : Heap} (H : ref01_Mix.body x0 turns1 R h) : HC Try.prog F.ref01_Mix #[(.int .u32 x0), (.slice turns1.a turns1.n turns1.c)] R h :=
  evFn_sound mixed Try.func48 (by kernel_rfl) (ref01_Mix.eq x0 turns1 R h ▸ H)

/-! zugzwang/zugzwangref01.Shift -/
def ref01_Shift.body (x0 : Int) (n1 : Int) (R : Value → Heap → Prop) (h : Heap) : Prop :=
  if (decide (n1 < 0)) = true then
  R (.int .u32 x0) h
  else
  loopW (fun X_2 (s_1 : Int × Int) (h : Heap) =>
  if (decide (s_1.2 < 32)) = true then
  if (decide (n1 < (IntKind.i64.wrap (32 - s_1.2)))) = true then
  callK Try.prog .bool F.ref01_bit #[(.int .u32 x0), (.int .i64 (IntKind.i64.wrap (s_1.2 + n1)))] (fun (v_3 : Bool) (h : Heap) =>
  callK Try.prog (.int .u32) F.ref01_place #[(.int .i64 s_1.2), (.bool v_3)] (fun (v_4 : Int) (h : Heap) =>
  X_2 (IntKind.u32.wrap (s_1.1 + v_4), IntKind.i64.wrap (s_1.2 + 1)) h) h) h
  else
  callK Try.prog (.int .u32) F.ref01_place #[(.int .i64 s_1.2), (.bool false)] (fun (v_5 : Int) (h : Heap) =>
  X_2 (IntKind.u32.wrap (s_1.1 + v_5), IntKind.i64.wrap (s_1.2 + 1)) h) h
  else
  R (.int .u32 s_1.1) h) (0, 0) h
def ref01_Shift.ann : Ann := (.seq .leaf (.seq (.seq .leaf (.cond (.seq .leaf .leaf) .leaf)) (.seq .leaf (.seq (.seq .leaf (.block (.loop [(5, (.int .u32)), (6, (.int .i64))] (.seq (.seq .leaf (.cond .leaf .leaf)) (.seq (.block .leaf) .leaf))))) (.seq .leaf .leaf)))))
theorem ref01_Shift.eq (x0 : Int) (n1 : Int) (R : Value → Heap → Prop) (h : Heap) : ref01_Shift.body x0 n1 R h = evFn Try.prog Try.f64 ref01_Shift.ann [(.int .u32 x0), (.int .i64 n1)] R h := by kernel_rfl
theorem ref01_Shift.calls {x0 : Int} {n1 : Int} {R : Value → Heap → Prop} {h : Heap} (H : ref01_Shift.body x0 n1 R h) : HC Try.prog F.ref01_Shift #[(.int .u32 x0), (.int .i64 n1)] R h :=
  evFn_sound mixed Try.func64 (by kernel_rfl) (ref01_Shift.eq x0 n1 R h ▸ H)

/-! zugzwang/zugzwangref02.small -/
def ref02_small.body (x0 : Int) (i1 : Int) (j2 : Int) (k3 : Int) (R : Value → Heap → Prop) (h : Heap) : Prop :=
  newSlK h 2 #[(.int .i64 i1), (.int .i64 j2)] T.int (fun (v_1 : Sl) (h : Heap) =>
  callK Try.prog (.int .u32) F.ref01_Mix #[(.int .u32 x0), (.slice v_1.a v_1.n v_1.c)] (fun (v_2 : Int) (h : Heap) =>
  callK Try.prog (.int .u32) F.ref01_Shift #[(.int .u32 x0), (.int .i64 k3)] (fun (v_3 : Int) (h : Heap) =>
  R (.int .u32 (IntKind.u32.wrap (BitVec.ofInt (IntKind.bits .u32) v_2 ^^^ BitVec.ofInt (IntKind.bits .u32) v_3).toNat)) h) h) h)
def ref02_small.ann : Ann := (.seq .leaf (.seq .leaf .leaf))
theorem ref02_small.eq (x0 : Int) (i1 : Int) (j2 : Int) (k3 : Int) (R : Value → Heap → Prop) (h : Heap) : ref02_small.body x0 i1 j2 k3 R h = evFn Try.prog Try.f57 ref02_small.ann [(.int .u32 x0), (.int .i64 i1), (.int .i64 j2), (.int .i64 k3)] R h := by kernel_rfl
theorem ref02_small.calls {x0 : Int} {i1 : Int} {j2 : Int} {k3 : Int} {R : Value → Heap → Prop} {h : Heap} (H : ref02_small.body x0 i1 j2 k3 R h) : HC Try.prog F.ref02_small #[(.int .u32 x0), (.int .i64 i1), (.int .i64 j2), (.int .i64 k3)] R h :=
  evFn_sound mixed Try.func57 (by kernel_rfl) (ref02_small.eq x0 i1 j2 k3 R h ▸ H)

/-! zugzwang/zugzwangref02.schedule -/
def ref02_schedule.body (block0 : Sl) (R : Value → Heap → Prop) (h : Heap) : Prop :=
  callK Try.prog (Kd.pair .slice (.int .i64)) F.ref01_Words #[(.slice block0.a block0.n block0.c)] (fun (v_1 : Sl × Int) (h : Heap) =>
  loopW (fun X_3 (s_2 : Sl × Int) (h : Heap) =>
  if (decide (s_2.2 < 64)) = true then
  idxK s_2.1 (IntKind.i64.wrap (s_2.2 - 16)) (sizeOfT Try.prog T.uint32) (fun (a_4 : Addr) =>
  idxK s_2.1 (IntKind.i64.wrap (s_2.2 - 15)) (sizeOfT Try.prog T.uint32) (fun (a_5 : Addr) =>
  idxK s_2.1 (IntKind.i64.wrap (s_2.2 - 7)) (sizeOfT Try.prog T.uint32) (fun (a_6 : Addr) =>
  idxK s_2.1 (IntKind.i64.wrap (s_2.2 - 2)) (sizeOfT Try.prog T.uint32) (fun (a_7 : Addr) =>
  loadK (.int .u32) h ((some a_4)) (fun (v_8 : Int) =>
  loadK (.int .u32) h ((some a_5)) (fun (v_9 : Int) =>
  loadK (.int .u32) h ((some a_6)) (fun (v_10 : Int) =>
  loadK (.int .u32) h ((some a_7)) (fun (v_11 : Int) =>
  callK Try.prog (.int .u32) F.ref02_small #[(.int .u32 v_9), (.int .i64 7), (.int .i64 18), (.int .i64 3)] (fun (v_12 : Int) (h : Heap) =>
  stillK (.int .u32) h ((some a_7)) v_11 ∧
  stillK (.int .u32) h ((some a_6)) v_10 ∧
  stillK (.int .u32) h ((some a_4)) v_8 ∧
  callK Try.prog (.int .u32) F.ref02_small #[(.int .u32 v_11), (.int .i64 17), (.int .i64 19), (.int .i64 10)] (fun (v_13 : Int) (h : Heap) =>
  stillK (.int .u32) h ((some a_6)) v_10 ∧
  stillK (.int .u32) h ((some a_4)) v_8 ∧
  newSlK h 4 #[(.int .u32 v_8), (.int .u32 v_12), (.int .u32 v_10), (.int .u32 v_13)] T.uint32 (fun (v_14 : Sl) (h : Heap) =>
  callK Try.prog (.int .u32) F.ref01_Sum #[(.slice v_14.a v_14.n v_14.c)] (fun (v_15 : Int) (h : Heap) =>
  newSlK h 1 #[(.int .u32 v_15)] T.uint32 (fun (v_16 : Sl) (h : Heap) =>
  opK Try.prog .slice (Builtin.append_ #[T.sl_uint32, T.sl_uint32] T.sl_uint32 #[(.slice s_2.1.a s_2.1.n s_2.1.c), (.slice v_16.a v_16.n v_16.c)]) (fun (v_17 : Sl) (h : Heap) =>
  X_3 (v_17, IntKind.i64.wrap (s_2.2 + 1)) h) h)) h)) h) h))))))))
  else
  R (.slice s_2.1.a s_2.1.n s_2.1.c) h) (v_1.1, 16) h) h
def ref02_schedule.ann : Ann := (.seq .leaf (.seq .leaf (.seq (.seq .leaf (.block (.loop [(3, .slice), (5, (.int .i64))] (.seq (.seq .leaf (.cond .leaf .leaf)) (.seq (.block (.any (.loc 0 (.loc 1 (.loc 2 (.loc 3 (.loc 4 (.loc 6 (.loc 7 (.loc 8 (.loc 9 (.loc 12 (.loc 13 (.loc 14 (.loc 15 (.loc 17 (.loc 18 (.loc 19 (.loc 20 (.st 5 260046848 (.st 10 264243200 (.st 16 260046848 (.st 21 264241152 (.last 11 (.last 22 (.last 23 (.last 24 (.last 25 (.last 26 (.loc 27 .done)))))))))))))))))))))))))))))) .leaf))))) (.seq .leaf .leaf))))
theorem ref02_schedule.eq (block0 : Sl) (R : Value → Heap → Prop) (h : Heap) : ref02_schedule.body block0 R h = evFn Try.prog Try.f46 ref02_schedule.ann [(.slice block0.a block0.n block0.c)] R h := by kernel_rfl
theorem ref02_schedule.calls {block0 : Sl} {R : Value → Heap → Prop} {h : Heap} (H : ref02_schedule.body block0 R h) : HC Try.prog F.ref02_schedule #[(.slice block0.a block0.n block0.c)] R h :=
  evFn_sound mixed Try.func46 (by kernel_rfl) (ref02_schedule.eq block0 R h ▸ H)

/-! zugzwang/zugzwangref01.Choose -/
def ref01_Choose.body (x0 : Int) (a1 : Int) (b2 : Int) (R : Value → Heap → Prop) (h : Heap) : Prop :=
  loopW (fun X_2 (s_1 : Int × Int) (h : Heap) =>
  if (decide (s_1.2 < 32)) = true then
  callK Try.prog .bool F.ref01_bit #[(.int .u32 x0), (.int .i64 s_1.2)] (fun (v_3 : Bool) (h : Heap) =>
  if v_3 = true then
  callK Try.prog .bool F.ref01_bit #[(.int .u32 a1), (.int .i64 s_1.2)] (fun (v_4 : Bool) (h : Heap) =>
  if v_4 = true then
  callK Try.prog (.int .u32) F.ref01_place #[(.int .i64 s_1.2), (.bool true)] (fun (v_5 : Int) (h : Heap) =>
  X_2 (IntKind.u32.wrap (s_1.1 + v_5), IntKind.i64.wrap (s_1.2 + 1)) h) h
  else
  callK Try.prog .bool F.ref01_bit #[(.int .u32 x0), (.int .i64 s_1.2)] (fun (v_6 : Bool) (h : Heap) =>
  if (!v_6) = true then
  callK Try.prog .bool F.ref01_bit #[(.int .u32 b2), (.int .i64 s_1.2)] (fun (v_7 : Bool) (h : Heap) =>
  callK Try.prog (.int .u32) F.ref01_place #[(.int .i64 s_1.2), (.bool v_7)] (fun (v_8 : Int) (h : Heap) =>
  X_2 (IntKind.u32.wrap (s_1.1 + v_8), IntKind.i64.wrap (s_1.2 + 1)) h) h) h
  else
  callK Try.prog (.int .u32) F.ref01_place #[(.int .i64 s_1.2), (.bool false)] (fun (v_9 : Int) (h : Heap) =>
  X_2 (IntKind.u32.wrap (s_1.1 + v_9), IntKind.i64.wrap (s_1.2 + 1)) h) h) h) h
  else
  callK Try.prog .bool F.ref01_bit #[(.int .u32 x0), (.int .i64 s_1.2)] (fun (v_10 : Bool) (h : Heap) =>
  if (!v_10) = true then
  callK Try.prog .bool F.ref01_bit #[(.int .u32 b2), (.int .i64 s_1.2)] (fun (v_11 : Bool) (h : Heap) =>
  callK Try.prog (.int .u32) F.ref01_place #[(.int .i64 s_1.2), (.bool v_11)] (fun (v_12 : Int) (h : Heap) =>
  X_2 (IntKind.u32.wrap (s_1.1 + v_12), IntKind.i64.wrap (s_1.2 + 1)) h) h) h
  else
  callK Try.prog (.int .u32) F.ref01_place #[(.int .i64 s_1.2), (.bool false)] (fun (v_13 : Int) (h : Heap) =>
  X_2 (IntKind.u32.wrap (s_1.1 + v_13), IntKind.i64.wrap (s_1.2 + 1)) h) h) h) h
  else
  R (.int .u32 s_1.1) h) (0, 0) h
def ref01_Choose.ann : Ann := (.seq .leaf (.seq .leaf (.seq (.seq .leaf (.block (.loop [(7, (.int .u32)), (8, (.int .i64))] (.seq (.seq .leaf (.cond .leaf .leaf)) (.seq (.block .leaf) .leaf))))) (.seq .leaf .leaf))))
theorem ref01_Choose.eq (x0 : Int) (a1 : Int) (b2 : Int) (R : Value → Heap → Prop) (h : Heap) : ref01_Choose.body x0 a1 b2 R h = evFn Try.prog Try.f49 ref01_Choose.ann [(.int .u32 x0), (.int .u32 a1), (.int .u32 b2)] R h := by kernel_rfl
theorem ref01_Choose.calls {x0 : Int} {a1 : Int} {b2 : Int} {R : Value → Heap → Prop} {h : Heap} (H : ref01_Choose.body x0 a1 b2 R h) : HC Try.prog F.ref01_Choose #[(.int .u32 x0), (.int .u32 a1), (.int .u32 b2)] R h :=
  evFn_sound mixed Try.func49 (by kernel_rfl) (ref01_Choose.eq x0 a1 b2 R h ▸ H)

/-! zugzwang/zugzwangref01.Most -/
def ref01_Most.body (words0 : Sl) (R : Value → Heap → Prop) (h : Heap) : Prop :=
  loopW (fun X_2 (s_1 : Int × Int) (h : Heap) =>
  if (decide (s_1.2 < 32)) = true then
  loopW (fun X_4 (s_3 : Int × Int) (h : Heap) =>
  if (decide (s_3.2 < ((words0.n : Int)))) = true then
  idxK words0 s_3.2 (sizeOfT Try.prog T.uint32) (fun (a_5 : Addr) =>
  loadK (.int .u32) h ((some a_5)) (fun (v_6 : Int) =>
  callK Try.prog .bool F.ref01_bit #[(.int .u32 v_6), (.int .i64 s_1.2)] (fun (v_7 : Bool) (h : Heap) =>
  if v_7 = true then
  X_4 (IntKind.i64.wrap (s_3.1 + 1), IntKind.i64.wrap (s_3.2 + 1)) h
  else
  X_4 (IntKind.i64.wrap (s_3.1 - 1), IntKind.i64.wrap (s_3.2 + 1)) h) h))
  else
  callK Try.prog (.int .u32) F.ref01_place #[(.int .i64 s_1.2), (.bool (decide (s_3.1 > 0)))] (fun (v_8 : Int) (h : Heap) =>
  X_2 (IntKind.u32.wrap (s_1.1 + v_8), IntKind.i64.wrap (s_1.2 + 1)) h) h) (0, 0) h
  else
  R (.int .u32 s_1.1) h) (0, 0) h
def ref01_Most.ann : Ann := (.seq .leaf (.seq .leaf (.seq (.seq .leaf (.block (.loop [(3, (.int .u32)), (4, (.int .i64))] (.seq (.seq .leaf (.cond .leaf .leaf)) (.seq (.block (.seq .leaf (.seq (.seq .leaf (.block (.loop [(5, (.int .i64)), (6, (.int .i64))] (.seq (.seq .leaf (.cond .leaf .leaf)) (.seq (.block (.seq .leaf (.cond .leaf .leaf))) .leaf))))) .leaf))) .leaf))))) (.seq .leaf .leaf))))
theorem ref01_Most.eq (words0 : Sl) (R : Value → Heap → Prop) (h : Heap) : ref01_Most.body words0 R h = evFn Try.prog Try.f50 ref01_Most.ann [(.slice words0.a words0.n words0.c)] R h := by kernel_rfl
theorem ref01_Most.calls {words0 : Sl} {R : Value → Heap → Prop} {h : Heap} (H : ref01_Most.body words0 R h) : HC Try.prog F.ref01_Most #[(.slice words0.a words0.n words0.c)] R h :=
  evFn_sound mixed Try.func50 (by kernel_rfl) (ref01_Most.eq words0 R h ▸ H)

/-! zugzwang/zugzwangref01.Bytes -/
def ref01_Bytes.body (words0 : Sl) (R : Value → Heap → Prop) (h : Heap) : Prop :=
  loopW (fun X_2 (s_1 : Sl × Int) (h : Heap) =>
  if (decide (s_1.2 < ((words0.n : Int)))) = true then
  loopW (fun X_4 (s_3 : Sl × Int) (h : Heap) =>
  if (decide (s_3.2 ≥ 0)) = true then
  idxK words0 s_1.2 (sizeOfT Try.prog T.uint32) (fun (a_5 : Addr) =>
  loadK (.int .u32) h ((some a_5)) (fun (v_6 : Int) =>
  shiftK (IntKind.i64.wrap (8 * s_3.2))
  (divK 256
  (newSlK h 1 #[(.int .u8 (IntKind.u8.wrap (Int.tmod (Int.fdiv v_6 (2 ^ min (Int.toNat (IntKind.i64.wrap (8 * s_3.2))) (IntKind.bits .u32))) 256)))] T.uint8 (fun (v_7 : Sl) (h : Heap) =>
  opK Try.prog .slice (Builtin.append_ #[T.sl_uint8, T.sl_uint8] T.sl_uint8 #[(.slice s_3.1.a s_3.1.n s_3.1.c), (.slice v_7.a v_7.n v_7.c)]) (fun (v_8 : Sl) (h : Heap) =>
  X_4 (v_8, IntKind.i64.wrap (s_3.2 - 1)) h) h)))))
  else
  X_2 (s_3.1, IntKind.i64.wrap (s_1.2 + 1)) h) (s_1.1, 3) h
  else
  R (.slice s_1.1.a s_1.1.n s_1.1.c) h) (⟨none, 0, 0⟩, 0) h
def ref01_Bytes.ann : Ann := (.seq .leaf (.seq .leaf (.seq (.seq .leaf (.block (.loop [(3, .slice), (4, (.int .i64))] (.seq (.seq .leaf (.cond .leaf .leaf)) (.seq (.block (.seq .leaf (.block (.loop [(3, .slice), (5, (.int .i64))] (.seq (.seq .leaf (.cond .leaf .leaf)) (.seq (.block .leaf) .leaf)))))) .leaf))))) (.seq .leaf .leaf))))
theorem ref01_Bytes.eq (words0 : Sl) (R : Value → Heap → Prop) (h : Heap) : ref01_Bytes.body words0 R h = evFn Try.prog Try.f51 ref01_Bytes.ann [(.slice words0.a words0.n words0.c)] R h := by kernel_rfl
theorem ref01_Bytes.calls {words0 : Sl} {R : Value → Heap → Prop} {h : Heap} (H : ref01_Bytes.body words0 R h) : HC Try.prog F.ref01_Bytes #[(.slice words0.a words0.n words0.c)] R h :=
  evFn_sound mixed Try.func51 (by kernel_rfl) (ref01_Bytes.eq words0 R h ▸ H)

/-! zugzwang/zugzwangref02.Of -/
def ref02_Of.body (b0 : Sl) (R : Value → Heap → Prop) (h : Heap) : Prop :=
  newK h (zerosOf Try.prog T.api_Tag) T.api_Tag (fun (v_1 : Option Addr) (h : Heap) =>
  callK Try.prog .slice F.ref02_filled #[(.slice b0.a b0.n b0.c)] (fun (v_2 : Sl) (h : Heap) =>
  callK Try.prog .slice F.ref02_constants #[] (fun (v_3 : Sl) (h : Heap) =>
  callK Try.prog .slice F.ref02_begin #[] (fun (v_4 : Sl) (h : Heap) =>
  loopW (fun X_6 (s_5 : Int) (h : Heap) =>
  if (decide (s_5 < ((v_2.n : Int)))) = true then
  sliceK v_2 (some s_5) (some (IntKind.i64.wrap (s_5 + 64))) none (sizeOfT Try.prog T.uint8) (fun (v_7 : Sl) =>
  callK Try.prog .slice F.ref02_schedule #[(.slice v_7.a v_7.n v_7.c)] (fun (v_8 : Sl) (h : Heap) =>
  newSlK h 0 #[] T.uint32 (fun (v_9 : Sl) (h : Heap) =>
  opK Try.prog .slice (Builtin.append_ #[T.sl_uint32, T.sl_uint32] T.sl_uint32 #[(.slice v_9.a v_9.n v_9.c), (.slice v_4.a v_4.n v_4.c)]) (fun (v_10 : Sl) (h : Heap) =>
  loopW (fun X_12 (s_11 : Sl × Int) (h : Heap) =>
  if (decide (s_11.2 < 64)) = true then
  idxK s_11.1 7 (sizeOfT Try.prog T.uint32) (fun (a_13 : Addr) =>
  idxK s_11.1 4 (sizeOfT Try.prog T.uint32) (fun (a_14 : Addr) =>
  idxK s_11.1 4 (sizeOfT Try.prog T.uint32) (fun (a_15 : Addr) =>
  idxK s_11.1 5 (sizeOfT Try.prog T.uint32) (fun (a_16 : Addr) =>
  idxK s_11.1 6 (sizeOfT Try.prog T.uint32) (fun (a_17 : Addr) =>
  idxK v_3 s_11.2 (sizeOfT Try.prog T.uint32) (fun (a_18 : Addr) =>
  idxK v_8 s_11.2 (sizeOfT Try.prog T.uint32) (fun (a_19 : Addr) =>
  loadK (.int .u32) h ((some a_13)) (fun (v_20 : Int) =>
  loadK (.int .u32) h ((some a_14)) (fun (v_21 : Int) =>
  loadK (.int .u32) h ((some a_15)) (fun (v_22 : Int) =>
  loadK (.int .u32) h ((some a_16)) (fun (v_23 : Int) =>
  loadK (.int .u32) h ((some a_17)) (fun (v_24 : Int) =>
  loadK (.int .u32) h ((some a_18)) (fun (v_25 : Int) =>
  loadK (.int .u32) h ((some a_19)) (fun (v_26 : Int) =>
  newSlK h 3 #[(.int .i64 6), (.int .i64 11), (.int .i64 25)] T.int (fun (v_27 : Sl) (h : Heap) =>
  callK Try.prog (.int .u32) F.ref01_Mix #[(.int .u32 v_21), (.slice v_27.a v_27.n v_27.c)] (fun (v_28 : Int) (h : Heap) =>
  stillK (.int .u32) h ((some a_19)) v_26 ∧
  stillK (.int .u32) h ((some a_18)) v_25 ∧
  stillK (.int .u32) h ((some a_17)) v_24 ∧
  stillK (.int .u32) h ((some a_16)) v_23 ∧
  stillK (.int .u32) h ((some a_15)) v_22 ∧
  stillK (.int .u32) h ((some a_13)) v_20 ∧
  callK Try.prog (.int .u32) F.ref01_Choose #[(.int .u32 v_22), (.int .u32 v_23), (.int .u32 v_24)] (fun (v_29 : Int) (h : Heap) =>
  stillK (.int .u32) h ((some a_19)) v_26 ∧
  stillK (.int .u32) h ((some a_18)) v_25 ∧
  stillK (.int .u32) h ((some a_13)) v_20 ∧
  newSlK h 5 #[(.int .u32 v_20), (.int .u32 v_28), (.int .u32 v_29), (.int .u32 v_25), (.int .u32 v_26)] T.uint32 (fun (v_30 : Sl) (h : Heap) =>
  callK Try.prog (.int .u32) F.ref01_Sum #[(.slice v_30.a v_30.n v_30.c)] (fun (v_31 : Int) (h : Heap) =>
  idxK s_11.1 0 (sizeOfT Try.prog T.uint32) (fun (a_32 : Addr) =>
  sliceK s_11.1 none (some 3) none (sizeOfT Try.prog T.uint32) (fun (v_33 : Sl) =>
  loadK (.int .u32) h ((some a_32)) (fun (v_34 : Int) =>
  newSlK h 3 #[(.int .i64 2), (.int .i64 13), (.int .i64 22)] T.int (fun (v_35 : Sl) (h : Heap) =>
  callK Try.prog (.int .u32) F.ref01_Mix #[(.int .u32 v_34), (.slice v_35.a v_35.n v_35.c)] (fun (v_36 : Int) (h : Heap) =>
  callK Try.prog (.int .u32) F.ref01_Most #[(.slice v_33.a v_33.n v_33.c)] (fun (v_37 : Int) (h : Heap) =>
  newSlK h 2 #[(.int .u32 v_36), (.int .u32 v_37)] T.uint32 (fun (v_38 : Sl) (h : Heap) =>
  callK Try.prog (.int .u32) F.ref01_Sum #[(.slice v_38.a v_38.n v_38.c)] (fun (v_39 : Int) (h : Heap) =>
  idxK s_11.1 0 (sizeOfT Try.prog T.uint32) (fun (a_40 : Addr) =>
  idxK s_11.1 1 (sizeOfT Try.prog T.uint32) (fun (a_41 : Addr) =>
  idxK s_11.1 2 (sizeOfT Try.prog T.uint32) (fun (a_42 : Addr) =>
  idxK s_11.1 3 (sizeOfT Try.prog T.uint32) (fun (a_43 : Addr) =>
  idxK s_11.1 4 (sizeOfT Try.prog T.uint32) (fun (a_44 : Addr) =>
  idxK s_11.1 5 (sizeOfT Try.prog T.uint32) (fun (a_45 : Addr) =>
  idxK s_11.1 6 (sizeOfT Try.prog T.uint32) (fun (a_46 : Addr) =>
  loadK (.int .u32) h ((some a_40)) (fun (v_47 : Int) =>
  loadK (.int .u32) h ((some a_41)) (fun (v_48 : Int) =>
  loadK (.int .u32) h ((some a_42)) (fun (v_49 : Int) =>
  loadK (.int .u32) h ((some a_43)) (fun (v_50 : Int) =>
  loadK (.int .u32) h ((some a_44)) (fun (v_51 : Int) =>
  loadK (.int .u32) h ((some a_45)) (fun (v_52 : Int) =>
  loadK (.int .u32) h ((some a_46)) (fun (v_53 : Int) =>
  newSlK h 8 #[(.int .u32 (IntKind.u32.wrap (v_31 + v_39))), (.int .u32 v_47), (.int .u32 v_48), (.int .u32 v_49), (.int .u32 (IntKind.u32.wrap (v_50 + v_31))), (.int .u32 v_51), (.int .u32 v_52), (.int .u32 v_53)] T.uint32 (fun (v_54 : Sl) (h : Heap) =>
  X_12 (v_54, IntKind.i64.wrap (s_11.2 + 1)) h)))))))))))))))) h)) h) h))))) h)) h) h)))))))))))))))
  else
  loopW (fun X_56 (s_55 : Int) (h : Heap) =>
  if (decide (s_55 < 8)) = true then
  idxK v_4 s_55 (sizeOfT Try.prog T.uint32) (fun (a_57 : Addr) =>
  idxK s_11.1 s_55 (sizeOfT Try.prog T.uint32) (fun (a_58 : Addr) =>
  loadK (.int .u32) h ((some a_57)) (fun (v_59 : Int) =>
  loadK (.int .u32) h ((some a_58)) (fun (v_60 : Int) =>
  idxK v_4 s_55 (sizeOfT Try.prog T.uint32) (fun (a_61 : Addr) =>
  storeK h ((some a_61)) (.int .u32 (IntKind.u32.wrap (v_59 + v_60))) (fun (h : Heap) =>
  X_56 (IntKind.i64.wrap (s_55 + 1)) h))))))
  else
  X_6 (IntKind.i64.wrap (s_5 + 64)) h) 0 h) (v_10, 0) h) h)) h)
  else
  newK h (zerosOf Try.prog T.api_Tag) T.api_Tag (fun (out_62 : Option Addr) (h : Heap) =>
  callK Try.prog .slice F.ref01_Bytes #[(.slice v_4.a v_4.n v_4.c)] (fun (v_63 : Sl) (h : Heap) =>
  loopW (fun X_65 (s_64 : Int) (h : Heap) =>
  if (decide (s_64 < 32)) = true then
  idxK v_63 s_64 (sizeOfT Try.prog T.uint8) (fun (a_66 : Addr) =>
  loadK (.int .u8) h ((some a_66)) (fun (v_67 : Int) =>
  idxArrK out_62 32 s_64 (sizeOfT Try.prog T.uint8) (fun (a_68 : Addr) =>
  storeK h ((some a_68)) (.int .u8 v_67) (fun (h : Heap) =>
  X_65 (IntKind.i64.wrap (s_64 + 1)) h))))
  else
  loadAggK (sizeOfT Try.prog T.api_Tag) h out_62 (fun (v_69 : Array Value) =>
  storeAggK (sizeOfT Try.prog T.api_Tag) h v_1 v_69 (fun (h : Heap) =>
  quietK Try.prog .agg (Instr.loadAt T.api_Tag (.pointer v_1)) (fun (r_70 : Array Value) =>
  R (.agg r_70) h) h))) 0 h) h)) 0 h) h) h) h)
def ref02_Of.ann : Ann := (.seq .leaf (.seq .leaf (.seq .leaf (.seq .leaf (.seq (.seq .leaf (.block (.loop [(6, (.int .i64))] (.seq (.seq .leaf (.cond .leaf .leaf)) (.seq (.block (.seq .leaf (.seq .leaf (.seq (.seq .leaf (.block (.loop [(8, .slice), (9, (.int .i64))] (.seq (.seq .leaf (.cond .leaf .leaf)) (.seq (.block (.seq (.any (.loc 0 (.loc 1 (.loc 3 (.loc 4 (.loc 8 (.loc 9 (.loc 11 (.loc 12 (.loc 14 (.loc 15 (.loc 18 (.loc 19 (.loc 20 (.loc 22 (.loc 23 (.loc 24 (.st 2 469762048 (.st 5 469893248 (.st 10 469893120 (.st 13 469893120 (.st 16 469893120 (.st 21 469762048 (.st 25 469762048 (.last 6 (.last 7 (.last 17 (.last 26 (.last 27 (.loc 28 .done)))))))))))))))))))))))))))))) (.seq (.any (.loc 0 (.loc 1 (.loc 5 (.loc 6 (.st 2 1936 (.last 3 (.last 4 (.last 7 (.last 8 (.last 9 (.loc 10 .done)))))))))))) (.any (.loc 0 (.loc 1 (.loc 2 (.loc 3 (.loc 4 (.loc 6 (.loc 7 (.loc 9 (.loc 10 (.loc 12 (.loc 13 (.loc 15 (.loc 17 (.loc 18 (.loc 20 (.loc 21 (.loc 23 (.loc 24 (.st 5 201326592 (.st 8 201326592 (.st 11 201326592 (.st 14 201392128 (.loc 16 (.st 19 201326592 (.st 22 201326592 (.st 25 201326592 (.last 26 (.loc 27 .done)))))))))))))))))))))))))))))))) .leaf))))) (.seq .leaf (.block (.loop [(12, (.int .i64))] (.seq (.seq .leaf (.cond .leaf .leaf)) (.seq (.block (.any (.loc 0 (.loc 1 (.loc 2 (.loc 3 (.loc 4 (.loc 6 (.loc 7 (.loc 8 (.st 5 7168 (.st 9 7168 (.loc 10 (.loc 11 (.last 12 .done))))))))))))))) .leaf))))))))) .leaf))))) (.seq .leaf (.seq .leaf (.seq (.seq .leaf (.block (.loop [(14, (.int .i64))] (.seq (.seq .leaf (.cond .leaf .leaf)) (.seq (.block .leaf) .leaf))))) (.seq .leaf .leaf)))))))))
theorem ref02_Of.eq (b0 : Sl) (R : Value → Heap → Prop) (h : Heap) : ref02_Of.body b0 R h = evFn Try.prog Try.f39 ref02_Of.ann [(.slice b0.a b0.n b0.c)] R h := by kernel_rfl
theorem ref02_Of.calls {b0 : Sl} {R : Value → Heap → Prop} {h : Heap} (H : ref02_Of.body b0 R h) : HC Try.prog F.ref02_Of #[(.slice b0.a b0.n b0.c)] R h :=
  evFn_sound mixed Try.func39 (by kernel_rfl) (ref02_Of.eq b0 R h ▸ H)

/-! zugzwang/zugzwangref04.eight -/
def ref04_eight.body (n0 : Int) (R : Value → Heap → Prop) (h : Heap) : Prop :=
  loopW (fun X_2 (s_1 : Sl × Int) (h : Heap) =>
  if (decide (s_1.2 ≥ 0)) = true then
  shiftK (IntKind.i64.wrap (8 * s_1.2))
  (newSlK h 1 #[(.int .u8 (IntKind.u8.wrap (Int.fdiv (IntKind.u64.wrap n0) (2 ^ min (Int.toNat (IntKind.i64.wrap (8 * s_1.2))) (IntKind.bits .u64)))))] T.uint8 (fun (v_3 : Sl) (h : Heap) =>
  opK Try.prog .slice (Builtin.append_ #[T.sl_uint8, T.sl_uint8] T.sl_uint8 #[(.slice s_1.1.a s_1.1.n s_1.1.c), (.slice v_3.a v_3.n v_3.c)]) (fun (v_4 : Sl) (h : Heap) =>
  X_2 (v_4, IntKind.i64.wrap (s_1.2 - 1)) h) h))
  else
  R (.slice s_1.1.a s_1.1.n s_1.1.c) h) (⟨none, 0, 0⟩, 7) h
def ref04_eight.ann : Ann := (.seq .leaf (.seq .leaf (.seq (.seq .leaf (.block (.loop [(3, .slice), (4, (.int .i64))] (.seq (.seq .leaf (.cond .leaf .leaf)) (.seq (.block .leaf) .leaf))))) (.seq .leaf .leaf))))
theorem ref04_eight.eq (n0 : Int) (R : Value → Heap → Prop) (h : Heap) : ref04_eight.body n0 R h = evFn Try.prog Try.f61 ref04_eight.ann [(.int .i64 n0)] R h := by kernel_rfl
theorem ref04_eight.calls {n0 : Int} {R : Value → Heap → Prop} {h : Heap} (H : ref04_eight.body n0 R h) : HC Try.prog F.ref04_eight #[(.int .i64 n0)] R h :=
  evFn_sound mixed Try.func61 (by kernel_rfl) (ref04_eight.eq n0 R h ▸ H)

/-! zugzwang/zugzwangref04.Number -/
def ref04_Number.body (n0 : Int) (R : Value → Heap → Prop) (h : Heap) : Prop :=
  newK h (zerosOf Try.prog T.api_Tag) T.api_Tag (fun (v_1 : Option Addr) (h : Heap) =>
  newK h (zerosOf Try.prog T.api_Tag) T.api_Tag (fun (t_2 : Option Addr) (h : Heap) =>
  newSlK h 8 #[(.int .u8 122), (.int .u8 117), (.int .u8 103), (.int .u8 122), (.int .u8 119), (.int .u8 97), (.int .u8 110), (.int .u8 103)] T.uint8 (fun (v_3 : Sl) (h : Heap) =>
  opK Try.prog .slice (convert T.sl_uint8 T.sl_uint8 (.slice v_3.a v_3.n v_3.c)) (fun (v_4 : Sl) (h : Heap) =>
  callK Try.prog .slice F.ref04_eight #[(.int .i64 n0)] (fun (v_5 : Sl) (h : Heap) =>
  opK Try.prog .slice (Builtin.append_ #[T.sl_uint8, T.sl_uint8] T.sl_uint8 #[(.slice v_4.a v_4.n v_4.c), (.slice v_5.a v_5.n v_5.c)]) (fun (v_6 : Sl) (h : Heap) =>
  loopW (fun X_8 (s_7 : Int) (h : Heap) =>
  if (decide (s_7 < ((v_6.n : Int)))) = true then
  idxK v_6 s_7 (sizeOfT Try.prog T.uint8) (fun (a_9 : Addr) =>
  loadK (.int .u8) h ((some a_9)) (fun (v_10 : Int) =>
  idxArrK t_2 32 s_7 (sizeOfT Try.prog T.uint8) (fun (a_11 : Addr) =>
  storeK h ((some a_11)) (.int .u8 v_10) (fun (h : Heap) =>
  X_8 (IntKind.i64.wrap (s_7 + 1)) h))))
  else
  loadAggK (sizeOfT Try.prog T.api_Tag) h t_2 (fun (v_12 : Array Value) =>
  storeAggK (sizeOfT Try.prog T.api_Tag) h v_1 v_12 (fun (h : Heap) =>
  quietK Try.prog .agg (Instr.loadAt T.api_Tag (.pointer v_1)) (fun (r_13 : Array Value) =>
  R (.agg r_13) h) h))) 0 h) h) h) h)))
def ref04_Number.ann : Ann := (.seq .leaf (.seq .leaf (.seq .leaf (.seq (.seq .leaf (.block (.loop [(5, (.int .i64))] (.seq (.seq .leaf (.cond .leaf .leaf)) (.seq (.block .leaf) .leaf))))) (.seq .leaf .leaf)))))
theorem ref04_Number.eq (n0 : Int) (R : Value → Heap → Prop) (h : Heap) : ref04_Number.body n0 R h = evFn Try.prog Try.f52 ref04_Number.ann [(.int .i64 n0)] R h := by kernel_rfl
theorem ref04_Number.calls {n0 : Int} {R : Value → Heap → Prop} {h : Heap} (H : ref04_Number.body n0 R h) : HC Try.prog F.ref04_Number #[(.int .i64 n0)] R h :=
  evFn_sound mixed Try.func52 (by kernel_rfl) (ref04_Number.eq n0 R h ▸ H)

/-! (*zugzwang/zugzwangref04.Maker).ask -/
def ref04_Maker_ask.body (m0 : Option Addr) (x1 : Array Value) (R : Value → Heap → Prop) (h : Heap) : Prop :=
  newK h x1 T.zugzwangref04_Thing (fun (x_1 : Option Addr) (h : Heap) =>
  newK h (zerosOf Try.prog T.api_Tag) T.api_Tag (fun (v_2 : Option Addr) (h : Heap) =>
  loopW (fun X_4 (s_3 : Int) (h : Heap) =>
  derefK m0 (fun (a_5 : Addr) =>
  fldK ((some a_5)) 2 (fun (a_6 : Addr) =>
  loadK .slice h ((some a_6)) (fun (v_7 : Sl) =>
  if (decide (s_3 < ((v_7.n : Int)))) = true then
  derefK m0 (fun (a_8 : Addr) =>
  fldK ((some a_8)) 2 (fun (a_9 : Addr) =>
  loadK .slice h ((some a_9)) (fun (v_10 : Sl) =>
  idxK v_10 s_3 (sizeOfT Try.prog T.zugzwangref04_Thing) (fun (a_11 : Addr) =>
  loadAggK (sizeOfT Try.prog T.zugzwangref04_Thing) h ((some a_11)) (fun (v_12 : Array Value) =>
  loadAggK (sizeOfT Try.prog T.zugzwangref04_Thing) h x_1 (fun (v_13 : Array Value) =>
  eqK Try.prog (binSem .eql T.zugzwangref04_Thing (.tmp 21) (.tmp 22) (.agg v_12) (.agg v_13)) (fun (v_14 : Bool) =>
  if v_14 = true then
  callK Try.prog .agg F.ref04_Number #[(.int .i64 s_3)] (fun (v_15 : Array Value) (h : Heap) =>
  storeAggK (sizeOfT Try.prog T.api_Tag) h v_2 v_15 (fun (h : Heap) =>
  quietK Try.prog .agg (Instr.loadAt T.api_Tag (.pointer v_2)) (fun (r_16 : Array Value) =>
  R (.agg r_16) h) h)) h
  else
  X_4 (IntKind.i64.wrap (s_3 + 1)) h)))))))
  else
  derefK m0 (fun (a_17 : Addr) =>
  fldK ((some a_17)) 2 (fun (a_18 : Addr) =>
  loadK .slice h ((some a_18)) (fun (v_19 : Sl) =>
  loadAggK (sizeOfT Try.prog T.zugzwangref04_Thing) h x_1 (fun (v_20 : Array Value) =>
  opK Try.prog .slice (Instr.buildSlice T.sl_zugzwangref04_Thing 1 #[(0, (.agg v_20))]) (fun (v_21 : Sl) (h : Heap) =>
  opK Try.prog .slice (Builtin.append_ #[T.sl_zugzwangref04_Thing, T.sl_zugzwangref04_Thing] T.sl_zugzwangref04_Thing #[(.slice v_19.a v_19.n v_19.c), (.slice v_21.a v_21.n v_21.c)]) (fun (v_22 : Sl) (h : Heap) =>
  derefK m0 (fun (a_23 : Addr) =>
  fldK ((some a_23)) 2 (fun (a_24 : Addr) =>
  storeK h ((some a_24)) (.slice v_22.a v_22.n v_22.c) (fun (h : Heap) =>
  derefK m0 (fun (a_25 : Addr) =>
  fldK ((some a_25)) 2 (fun (a_26 : Addr) =>
  loadK .slice h ((some a_26)) (fun (v_27 : Sl) =>
  callK Try.prog .agg F.ref04_Number #[(.int .i64 (IntKind.i64.wrap (((v_27.n : Int)) - 1)))] (fun (v_28 : Array Value) (h : Heap) =>
  storeAggK (sizeOfT Try.prog T.api_Tag) h v_2 v_28 (fun (h : Heap) =>
  quietK Try.prog .agg (Instr.loadAt T.api_Tag (.pointer v_2)) (fun (r_29 : Array Value) =>
  R (.agg r_29) h) h)) h))))))) h) h)))))))) 0 h))
def ref04_Maker_ask.ann : Ann := (.seq .leaf (.seq (.seq .leaf (.block (.loop [(5, (.int .i64))] (.seq (.seq .leaf (.cond .leaf .leaf)) (.seq (.block (.seq .leaf (.cond (.seq .leaf .leaf) .leaf))) .leaf))))) (.seq (.any (.loc 0 (.loc 1 (.loc 2 (.loc 3 (.st 4 1920 (.st 5 1984 (.last 6 (.last 7 (.loc 8 (.loc 9 (.last 10 .done)))))))))))) (.seq .leaf .leaf))))
theorem ref04_Maker_ask.eq (m0 : Option Addr) (x1 : Array Value) (R : Value → Heap → Prop) (h : Heap) : ref04_Maker_ask.body m0 x1 R h = evFn Try.prog Try.f40 ref04_Maker_ask.ann [(.pointer m0), (.agg x1)] R h := by kernel_rfl
theorem ref04_Maker_ask.calls {m0 : Option Addr} {x1 : Array Value} {R : Value → Heap → Prop} {h : Heap} (H : ref04_Maker_ask.body m0 x1 R h) : HC Try.prog F.ref04_Maker_ask #[(.pointer m0), (.agg x1)] R h :=
  evFn_sound mixed Try.func40 (by kernel_rfl) (ref04_Maker_ask.eq m0 x1 R h ▸ H)

/-! (*zugzwang/zugzwangref04.Maker).Sum -/
def ref04_Maker_Sum.body (m0 : Option Addr) (b1 : Sl) (R : Value → Heap → Prop) (h : Heap) : Prop :=
  newK h (zerosOf Try.prog T.api_Tag) T.api_Tag (fun (v_1 : Option Addr) (h : Heap) =>
  derefK m0 (fun (a_2 : Addr) =>
  fldK ((some a_2)) 0 (fun (a_3 : Addr) =>
  loadK .bool h ((some a_3)) (fun (v_4 : Bool) =>
  if v_4 = true then
  callK Try.prog .agg F.ref02_Of #[(.slice b1.a b1.n b1.c)] (fun (v_5 : Array Value) (h : Heap) =>
  storeAggK (sizeOfT Try.prog T.api_Tag) h v_1 v_5 (fun (h : Heap) =>
  quietK Try.prog .agg (Instr.loadAt T.api_Tag (.pointer v_1)) (fun (r_6 : Array Value) =>
  R (.agg r_6) h) h)) h
  else
  opK Try.prog .str (convert T.sl_uint8 T.string (.slice b1.a b1.n b1.c)) (fun (v_7 : ByteArray) (h : Heap) =>
  buildK Try.prog (Instr.build T.zugzwangref04_Thing #[(0, (.int .i64 0)), (2, (.string v_7))]) (fun (v_8 : Array Value) =>
  callK Try.prog .agg F.ref04_Maker_ask #[(.pointer m0), (.agg v_8)] (fun (v_9 : Array Value) (h : Heap) =>
  storeAggK (sizeOfT Try.prog T.api_Tag) h v_1 v_9 (fun (h : Heap) =>
  quietK Try.prog .agg (Instr.loadAt T.api_Tag (.pointer v_1)) (fun (r_10 : Array Value) =>
  R (.agg r_10) h) h)) h)) h))))
def ref04_Maker_Sum.ann : Ann := (.seq .leaf (.seq (.seq .leaf (.cond (.seq .leaf .leaf) .leaf)) (.seq .leaf .leaf)))
theorem ref04_Maker_Sum.eq (m0 : Option Addr) (b1 : Sl) (R : Value → Heap → Prop) (h : Heap) : ref04_Maker_Sum.body m0 b1 R h = evFn Try.prog Try.f37 ref04_Maker_Sum.ann [(.pointer m0), (.slice b1.a b1.n b1.c)] R h := by kernel_rfl
theorem ref04_Maker_Sum.calls {m0 : Option Addr} {b1 : Sl} {R : Value → Heap → Prop} {h : Heap} (H : ref04_Maker_Sum.body m0 b1 R h) : HC Try.prog F.ref04_Maker_Sum #[(.pointer m0), (.slice b1.a b1.n b1.c)] R h :=
  evFn_sound mixed Try.func37 (by kernel_rfl) (ref04_Maker_Sum.eq m0 b1 R h ▸ H)

/-! zugzwang/zugzwangref20.Root -/
def ref20_Root.body (m0 : Option Addr) (game1 : Array Value) (R : Value → Heap → Prop) (h : Heap) : Prop :=
  newK h game1 T.api_Tag (fun (game_1 : Option Addr) (h : Heap) =>
  newK h (zerosOf Try.prog T.api_Tag) T.api_Tag (fun (v_2 : Option Addr) (h : Heap) =>
  newSlK h 4 #[(.int .u8 114), (.int .u8 111), (.int .u8 111), (.int .u8 116)] T.uint8 (fun (v_3 : Sl) (h : Heap) =>
  opK Try.prog .slice (convert T.sl_uint8 T.sl_uint8 (.slice v_3.a v_3.n v_3.c)) (fun (v_4 : Sl) (h : Heap) =>
  loopW (fun X_6 (s_5 : Sl × Int) (h : Heap) =>
  if (decide (s_5.2 < 32)) = true then
  idxArrK game_1 32 s_5.2 (sizeOfT Try.prog T.uint8) (fun (a_7 : Addr) =>
  loadK (.int .u8) h ((some a_7)) (fun (v_8 : Int) =>
  newSlK h 1 #[(.int .u8 v_8)] T.uint8 (fun (v_9 : Sl) (h : Heap) =>
  opK Try.prog .slice (Builtin.append_ #[T.sl_uint8, T.sl_uint8] T.sl_uint8 #[(.slice s_5.1.a s_5.1.n s_5.1.c), (.slice v_9.a v_9.n v_9.c)]) (fun (v_10 : Sl) (h : Heap) =>
  X_6 (v_10, IntKind.i64.wrap (s_5.2 + 1)) h) h)))
  else
  callK Try.prog .agg F.ref04_Maker_Sum #[(.pointer m0), (.slice s_5.1.a s_5.1.n s_5.1.c)] (fun (v_11 : Array Value) (h : Heap) =>
  storeAggK (sizeOfT Try.prog T.api_Tag) h v_2 v_11 (fun (h : Heap) =>
  quietK Try.prog .agg (Instr.loadAt T.api_Tag (.pointer v_2)) (fun (r_12 : Array Value) =>
  R (.agg r_12) h) h)) h) (v_4, 0) h) h)))
def ref20_Root.ann : Ann := (.seq .leaf (.seq .leaf (.seq (.seq .leaf (.block (.loop [(5, .slice), (6, (.int .i64))] (.seq (.seq .leaf (.cond .leaf .leaf)) (.seq (.block .leaf) .leaf))))) (.seq .leaf .leaf))))
theorem ref20_Root.eq (m0 : Option Addr) (game1 : Array Value) (R : Value → Heap → Prop) (h : Heap) : ref20_Root.body m0 game1 R h = evFn Try.prog Try.f35 ref20_Root.ann [(.pointer m0), (.agg game1)] R h := by kernel_rfl
theorem ref20_Root.calls {m0 : Option Addr} {game1 : Array Value} {R : Value → Heap → Prop} {h : Heap} (H : ref20_Root.body m0 game1 R h) : HC Try.prog F.ref20_Root #[(.pointer m0), (.agg game1)] R h :=
  evFn_sound mixed Try.func35 (by kernel_rfl) (ref20_Root.eq m0 game1 R h ▸ H)

/-! zugzwang/zugzwangref18.Entry -/
def ref18_Entry.body (e0 : Array Value) (R : Value → Heap → Prop) (h : Heap) : Prop :=
  newK h e0 T.api_Entry (fun (e_1 : Option Addr) (h : Heap) =>
  fldK e_1 32 (fun (a_2 : Addr) =>
  loadK (.int .i64) h ((some a_2)) (fun (v_3 : Int) =>
  if (decide (v_3 ≥ 0)) = true then
  fldK e_1 32 (fun (a_4 : Addr) =>
  loadK (.int .i64) h ((some a_4)) (fun (v_5 : Int) =>
  if (decide (v_5 ≤ 4294967295)) = true then
  fldK e_1 65 (fun (a_6 : Addr) =>
  loadAggK (sizeOfT Try.prog T.api_Body) h ((some a_6)) (fun (v_7 : Array Value) =>
  callK Try.prog .bool F.ref18_Body #[(.agg v_7)] (fun (v_8 : Bool) (h : Heap) =>
  R (.bool v_8) h) h))
  else
  R (.bool false) h))
  else
  R (.bool false) h)))
def ref18_Entry.ann : Ann := (.seq .leaf (.seq .leaf .leaf))
theorem ref18_Entry.eq (e0 : Array Value) (R : Value → Heap → Prop) (h : Heap) : ref18_Entry.body e0 R h = evFn Try.prog Try.f41 ref18_Entry.ann [(.agg e0)] R h := by kernel_rfl
theorem ref18_Entry.calls {e0 : Array Value} {R : Value → Heap → Prop} {h : Heap} (H : ref18_Entry.body e0 R h) : HC Try.prog F.ref18_Entry #[(.agg e0)] R h :=
  evFn_sound mixed Try.func41 (by kernel_rfl) (ref18_Entry.eq e0 R h ▸ H)

/-! (*zugzwang/zugzwangref17.Writer).put -/
def ref17_Writer_put.body (w0 : Option Addr) (b1 : Sl) (R : Value → Heap → Prop) (h : Heap) : Prop :=
  joinW (fun (s_1 : Unit) (h : Heap) =>
  derefK w0 (fun (a_2 : Addr) =>
  fldK ((some a_2)) 1 (fun (a_3 : Addr) =>
  loadK (.int .i64) h ((some a_3)) (fun (v_4 : Int) =>
  if (v_4 == 0) = true then
  derefK w0 (fun (a_5 : Addr) =>
  fldK ((some a_5)) 0 (fun (a_6 : Addr) =>
  loadK .slice h ((some a_6)) (fun (v_7 : Sl) =>
  opK Try.prog .slice (Builtin.append_ #[T.sl_uint8, T.sl_uint8] T.sl_uint8 #[(.slice v_7.a v_7.n v_7.c), (.slice b1.a b1.n b1.c)]) (fun (v_8 : Sl) (h : Heap) =>
  derefK w0 (fun (a_9 : Addr) =>
  fldK ((some a_9)) 0 (fun (a_10 : Addr) =>
  storeK h ((some a_10)) (.slice v_8.a v_8.n v_8.c) (fun (h : Heap) =>
  R (.tuple #[]) h)))) h)))
  else
  R (.tuple #[]) h))))
  (fun J_11 =>
  joinW (fun (s_12 : Bool) (h : Heap) =>
  if s_12 = true then
  derefK w0 (fun (a_13 : Addr) =>
  fldK ((some a_13)) 1 (fun (a_14 : Addr) =>
  storeK h ((some a_14)) (.int .i64 3) (fun (h : Heap) =>
  J_11 () h)))
  else
  J_11 () h)
  (fun J_15 =>
  derefK w0 (fun (a_16 : Addr) =>
  fldK ((some a_16)) 1 (fun (a_17 : Addr) =>
  loadK (.int .i64) h ((some a_17)) (fun (v_18 : Int) =>
  if (v_18 == 0) = true then
  derefK w0 (fun (a_19 : Addr) =>
  fldK ((some a_19)) 0 (fun (a_20 : Addr) =>
  loadK .slice h ((some a_20)) (fun (v_21 : Sl) =>
  J_15 (decide ((IntKind.i64.wrap (((v_21.n : Int)) + ((b1.n : Int)))) > 65536)) h)))
  else
  J_15 false h)))))
def ref17_Writer_put.ann : Ann := (.join [] (.join [(19, .bool)] .leaf (.cond .leaf .leaf)) (.seq .leaf (.cond .leaf .leaf)))
theorem ref17_Writer_put.eq (w0 : Option Addr) (b1 : Sl) (R : Value → Heap → Prop) (h : Heap) : ref17_Writer_put.body w0 b1 R h = evFn Try.prog Try.f62 ref17_Writer_put.ann [(.pointer w0), (.slice b1.a b1.n b1.c)] R h := by kernel_rfl
theorem ref17_Writer_put.calls {w0 : Option Addr} {b1 : Sl} {R : Value → Heap → Prop} {h : Heap} (H : ref17_Writer_put.body w0 b1 R h) : HC Try.prog F.ref17_Writer_put #[(.pointer w0), (.slice b1.a b1.n b1.c)] R h :=
  evFn_sound mixed Try.func62 (by kernel_rfl) (ref17_Writer_put.eq w0 b1 R h ▸ H)

/-! (*zugzwang/zugzwangref17.Writer).Tag -/
def ref17_Writer_Tag.body (w0 : Option Addr) (l1 : Sl) (R : Value → Heap → Prop) (h : Heap) : Prop :=
  loopW (fun X_2 (s_1 : Int) (h : Heap) =>
  if (decide (s_1 < ((l1.n : Int)))) = true then
  loopW (fun X_4 (s_3 : Sl × Int) (h : Heap) =>
  if (decide (s_3.2 < 32)) = true then
  idxK l1 s_1 (sizeOfT Try.prog T.api_Tag) (fun (a_5 : Addr) =>
  idxArrK ((some a_5)) 32 s_3.2 (sizeOfT Try.prog T.uint8) (fun (a_6 : Addr) =>
  loadK (.int .u8) h ((some a_6)) (fun (v_7 : Int) =>
  newSlK h 1 #[(.int .u8 v_7)] T.uint8 (fun (v_8 : Sl) (h : Heap) =>
  opK Try.prog .slice (Builtin.append_ #[T.sl_uint8, T.sl_uint8] T.sl_uint8 #[(.slice s_3.1.a s_3.1.n s_3.1.c), (.slice v_8.a v_8.n v_8.c)]) (fun (v_9 : Sl) (h : Heap) =>
  X_4 (v_9, IntKind.i64.wrap (s_3.2 + 1)) h) h))))
  else
  callK Try.prog .unit F.ref17_Writer_put #[(.pointer w0), (.slice s_3.1.a s_3.1.n s_3.1.c)] (fun (v_10 : Unit) (h : Heap) =>
  X_2 (IntKind.i64.wrap (s_1 + 1)) h) h) (⟨none, 0, 0⟩, 0) h
  else
  derefK w0 (fun (a_11 : Addr) =>
  fldK ((some a_11)) 1 (fun (a_12 : Addr) =>
  loadK (.int .i64) h ((some a_12)) (fun (v_13 : Int) =>
  R (.int .i64 v_13) h)))) 0 h
def ref17_Writer_Tag.ann : Ann := (.seq .leaf (.seq (.seq .leaf (.block (.loop [(5, (.int .i64))] (.seq (.seq .leaf (.cond .leaf .leaf)) (.seq (.block (.seq .leaf (.seq (.seq .leaf (.block (.loop [(6, .slice), (7, (.int .i64))] (.seq (.seq .leaf (.cond .leaf .leaf)) (.seq (.block .leaf) .leaf))))) .leaf))) .leaf))))) (.seq .leaf .leaf)))
theorem ref17_Writer_Tag.eq (w0 : Option Addr) (l1 : Sl) (R : Value → Heap → Prop) (h : Heap) : ref17_Writer_Tag.body w0 l1 R h = evFn Try.prog Try.f53 ref17_Writer_Tag.ann [(.pointer w0), (.slice l1.a l1.n l1.c)] R h := by kernel_rfl
theorem ref17_Writer_Tag.calls {w0 : Option Addr} {l1 : Sl} {R : Value → Heap → Prop} {h : Heap} (H : ref17_Writer_Tag.body w0 l1 R h) : HC Try.prog F.ref17_Writer_Tag #[(.pointer w0), (.slice l1.a l1.n l1.c)] R h :=
  evFn_sound mixed Try.func53 (by kernel_rfl) (ref17_Writer_Tag.eq w0 l1 R h ▸ H)

/-! zugzwang/zugzwangref17.Four -/
def ref17_Four.body (n0 : Int) (R : Value → Heap → Prop) (h : Heap) : Prop :=
  shiftK 24
  (shiftK 16
  (shiftK 8
  (newSlK h 4 #[(.int .u8 (IntKind.u8.wrap (Int.fdiv n0 (2 ^ min (Int.toNat 24) (IntKind.bits .i64))))), (.int .u8 (IntKind.u8.wrap (Int.fdiv n0 (2 ^ min (Int.toNat 16) (IntKind.bits .i64))))), (.int .u8 (IntKind.u8.wrap (Int.fdiv n0 (2 ^ min (Int.toNat 8) (IntKind.bits .i64))))), (.int .u8 (IntKind.u8.wrap n0))] T.uint8 (fun (v_1 : Sl) (h : Heap) =>
  R (.slice v_1.a v_1.n v_1.c) h))))
def ref17_Four.ann : Ann := (.seq .leaf (.seq .leaf .leaf))
theorem ref17_Four.eq (n0 : Int) (R : Value → Heap → Prop) (h : Heap) : ref17_Four.body n0 R h = evFn Try.prog Try.f63 ref17_Four.ann [(.int .i64 n0)] R h := by kernel_rfl
theorem ref17_Four.calls {n0 : Int} {R : Value → Heap → Prop} {h : Heap} (H : ref17_Four.body n0 R h) : HC Try.prog F.ref17_Four #[(.int .i64 n0)] R h :=
  evFn_sound mixed Try.func63 (by kernel_rfl) (ref17_Four.eq n0 R h ▸ H)

/-! (*zugzwang/zugzwangref17.Writer).Number -/
def ref17_Writer_Number.body (w0 : Option Addr) (l1 : Sl) (R : Value → Heap → Prop) (h : Heap) : Prop :=
  loopW (fun X_2 (s_1 : Int) (h : Heap) =>
  if (decide (s_1 < ((l1.n : Int)))) = true then
  joinW (fun (s_3 : Unit) (h : Heap) =>
  idxK l1 s_1 (sizeOfT Try.prog T.int) (fun (a_4 : Addr) =>
  loadK (.int .i64) h ((some a_4)) (fun (v_5 : Int) =>
  callK Try.prog .slice F.ref17_Four #[(.int .i64 v_5)] (fun (v_6 : Sl) (h : Heap) =>
  callK Try.prog .unit F.ref17_Writer_put #[(.pointer w0), (.slice v_6.a v_6.n v_6.c)] (fun (v_7 : Unit) (h : Heap) =>
  X_2 (IntKind.i64.wrap (s_1 + 1)) h) h) h)))
  (fun J_8 =>
  joinW (fun (s_9 : Bool) (h : Heap) =>
  if s_9 = true then
  derefK w0 (fun (a_10 : Addr) =>
  fldK ((some a_10)) 1 (fun (a_11 : Addr) =>
  storeK h ((some a_11)) (.int .i64 2) (fun (h : Heap) =>
  J_8 () h)))
  else
  J_8 () h)
  (fun J_12 =>
  derefK w0 (fun (a_13 : Addr) =>
  fldK ((some a_13)) 1 (fun (a_14 : Addr) =>
  loadK (.int .i64) h ((some a_14)) (fun (v_15 : Int) =>
  if (v_15 == 0) = true then
  idxK l1 s_1 (sizeOfT Try.prog T.int) (fun (a_16 : Addr) =>
  loadK (.int .i64) h ((some a_16)) (fun (v_17 : Int) =>
  if (decide (v_17 < 0)) = true then
  J_12 true h
  else
  idxK l1 s_1 (sizeOfT Try.prog T.int) (fun (a_18 : Addr) =>
  loadK (.int .i64) h ((some a_18)) (fun (v_19 : Int) =>
  J_12 (decide (v_19 > 4294967295)) h))))
  else
  J_12 false h)))))
  else
  derefK w0 (fun (a_20 : Addr) =>
  fldK ((some a_20)) 1 (fun (a_21 : Addr) =>
  loadK (.int .i64) h ((some a_21)) (fun (v_22 : Int) =>
  R (.int .i64 v_22) h)))) 0 h
def ref17_Writer_Number.ann : Ann := (.seq .leaf (.seq (.seq .leaf (.block (.loop [(5, (.int .i64))] (.seq (.seq .leaf (.cond .leaf .leaf)) (.seq (.block (.join [] (.join [(30, .bool)] .leaf (.cond .leaf .leaf)) .leaf)) .leaf))))) (.seq .leaf .leaf)))
theorem ref17_Writer_Number.eq (w0 : Option Addr) (l1 : Sl) (R : Value → Heap → Prop) (h : Heap) : ref17_Writer_Number.body w0 l1 R h = evFn Try.prog Try.f54 ref17_Writer_Number.ann [(.pointer w0), (.slice l1.a l1.n l1.c)] R h := by kernel_rfl
theorem ref17_Writer_Number.calls {w0 : Option Addr} {l1 : Sl} {R : Value → Heap → Prop} {h : Heap} (H : ref17_Writer_Number.body w0 l1 R h) : HC Try.prog F.ref17_Writer_Number #[(.pointer w0), (.slice l1.a l1.n l1.c)] R h :=
  evFn_sound mixed Try.func54 (by kernel_rfl) (ref17_Writer_Number.eq w0 l1 R h ▸ H)

/-! (*zugzwang/zugzwangref17.Writer).Byte -/
def ref17_Writer_Byte.body (w0 : Option Addr) (l1 : Sl) (R : Value → Heap → Prop) (h : Heap) : Prop :=
  loopW (fun X_2 (s_1 : Int) (h : Heap) =>
  if (decide (s_1 < ((l1.n : Int)))) = true then
  joinW (fun (s_3 : Unit) (h : Heap) =>
  idxK l1 s_1 (sizeOfT Try.prog T.int) (fun (a_4 : Addr) =>
  loadK (.int .i64) h ((some a_4)) (fun (v_5 : Int) =>
  newSlK h 1 #[(.int .u8 (IntKind.u8.wrap v_5))] T.uint8 (fun (v_6 : Sl) (h : Heap) =>
  callK Try.prog .unit F.ref17_Writer_put #[(.pointer w0), (.slice v_6.a v_6.n v_6.c)] (fun (v_7 : Unit) (h : Heap) =>
  X_2 (IntKind.i64.wrap (s_1 + 1)) h) h))))
  (fun J_8 =>
  joinW (fun (s_9 : Bool) (h : Heap) =>
  if s_9 = true then
  derefK w0 (fun (a_10 : Addr) =>
  fldK ((some a_10)) 1 (fun (a_11 : Addr) =>
  storeK h ((some a_11)) (.int .i64 2) (fun (h : Heap) =>
  J_8 () h)))
  else
  J_8 () h)
  (fun J_12 =>
  derefK w0 (fun (a_13 : Addr) =>
  fldK ((some a_13)) 1 (fun (a_14 : Addr) =>
  loadK (.int .i64) h ((some a_14)) (fun (v_15 : Int) =>
  if (v_15 == 0) = true then
  idxK l1 s_1 (sizeOfT Try.prog T.int) (fun (a_16 : Addr) =>
  loadK (.int .i64) h ((some a_16)) (fun (v_17 : Int) =>
  if (decide (v_17 < 0)) = true then
  J_12 true h
  else
  idxK l1 s_1 (sizeOfT Try.prog T.int) (fun (a_18 : Addr) =>
  loadK (.int .i64) h ((some a_18)) (fun (v_19 : Int) =>
  J_12 (decide (v_19 > 255)) h))))
  else
  J_12 false h)))))
  else
  derefK w0 (fun (a_20 : Addr) =>
  fldK ((some a_20)) 1 (fun (a_21 : Addr) =>
  loadK (.int .i64) h ((some a_21)) (fun (v_22 : Int) =>
  R (.int .i64 v_22) h)))) 0 h
def ref17_Writer_Byte.ann : Ann := (.seq .leaf (.seq (.seq .leaf (.block (.loop [(5, (.int .i64))] (.seq (.seq .leaf (.cond .leaf .leaf)) (.seq (.block (.join [] (.join [(30, .bool)] .leaf (.cond .leaf .leaf)) .leaf)) .leaf))))) (.seq .leaf .leaf)))
theorem ref17_Writer_Byte.eq (w0 : Option Addr) (l1 : Sl) (R : Value → Heap → Prop) (h : Heap) : ref17_Writer_Byte.body w0 l1 R h = evFn Try.prog Try.f55 ref17_Writer_Byte.ann [(.pointer w0), (.slice l1.a l1.n l1.c)] R h := by kernel_rfl
theorem ref17_Writer_Byte.calls {w0 : Option Addr} {l1 : Sl} {R : Value → Heap → Prop} {h : Heap} (H : ref17_Writer_Byte.body w0 l1 R h) : HC Try.prog F.ref17_Writer_Byte #[(.pointer w0), (.slice l1.a l1.n l1.c)] R h :=
  evFn_sound mixed Try.func55 (by kernel_rfl) (ref17_Writer_Byte.eq w0 l1 R h ▸ H)

/-! zugzwang/zugzwangref18.put -/
def ref18_put.body (w0 : Option Addr) (e1 : Array Value) (R : Value → Heap → Prop) (h : Heap) : Prop :=
  newK h e1 T.api_Entry (fun (e_1 : Option Addr) (h : Heap) =>
  fldK e_1 0 (fun (a_2 : Addr) =>
  loadAggK (sizeOfT Try.prog T.api_Tag) h ((some a_2)) (fun (v_3 : Array Value) =>
  opK Try.prog .slice (Instr.buildSlice T.sl_api_Tag 1 #[(0, (.agg v_3))]) (fun (v_4 : Sl) (h : Heap) =>
  callK Try.prog (.int .i64) F.ref17_Writer_Tag #[(.pointer w0), (.slice v_4.a v_4.n v_4.c)] (fun (v_5 : Int) (h : Heap) =>
  fldK e_1 32 (fun (a_6 : Addr) =>
  loadK (.int .i64) h ((some a_6)) (fun (v_7 : Int) =>
  newSlK h 1 #[(.int .i64 v_7)] T.int (fun (v_8 : Sl) (h : Heap) =>
  callK Try.prog (.int .i64) F.ref17_Writer_Number #[(.pointer w0), (.slice v_8.a v_8.n v_8.c)] (fun (v_9 : Int) (h : Heap) =>
  fldK e_1 33 (fun (a_10 : Addr) =>
  loadAggK (sizeOfT Try.prog T.api_Tag) h ((some a_10)) (fun (v_11 : Array Value) =>
  opK Try.prog .slice (Instr.buildSlice T.sl_api_Tag 1 #[(0, (.agg v_11))]) (fun (v_12 : Sl) (h : Heap) =>
  callK Try.prog (.int .i64) F.ref17_Writer_Tag #[(.pointer w0), (.slice v_12.a v_12.n v_12.c)] (fun (v_13 : Int) (h : Heap) =>
  fldK e_1 65 (fun (a_14 : Addr) =>
  loadAggK (sizeOfT Try.prog T.api_Body) h ((some a_14)) (fun (v_15 : Array Value) =>
  newK h (zerosOf Try.prog T.api_Body) T.api_Body (fun (b_16 : Option Addr) (h : Heap) =>
  storeAggK (sizeOfT Try.prog T.api_Body) h b_16 v_15 (fun (h : Heap) =>
  fldK b_16 0 (fun (a_17 : Addr) =>
  loadK (.int .i64) h ((some a_17)) (fun (v_18 : Int) =>
  newSlK h 1 #[(.int .i64 v_18)] T.int (fun (v_19 : Sl) (h : Heap) =>
  callK Try.prog (.int .i64) F.ref17_Writer_Byte #[(.pointer w0), (.slice v_19.a v_19.n v_19.c)] (fun (v_20 : Int) (h : Heap) =>
  fldK b_16 1 (fun (a_21 : Addr) =>
  fldK ((some a_21)) 0 (fun (a_22 : Addr) =>
  loadK (.int .i64) h ((some a_22)) (fun (v_23 : Int) =>
  fldK b_16 1 (fun (a_24 : Addr) =>
  fldK ((some a_24)) 1 (fun (a_25 : Addr) =>
  loadK (.int .i64) h ((some a_25)) (fun (v_26 : Int) =>
  fldK b_16 1 (fun (a_27 : Addr) =>
  fldK ((some a_27)) 2 (fun (a_28 : Addr) =>
  loadK (.int .i64) h ((some a_28)) (fun (v_29 : Int) =>
  newSlK h 3 #[(.int .i64 v_23), (.int .i64 v_26), (.int .i64 v_29)] T.int (fun (v_30 : Sl) (h : Heap) =>
  fldK b_16 0 (fun (a_31 : Addr) =>
  loadK (.int .i64) h ((some a_31)) (fun (v_32 : Int) =>
  if (v_32 == 1) = true then
  callK Try.prog (.int .i64) F.ref17_Writer_Byte #[(.pointer w0), (.slice v_30.a v_30.n v_30.c)] (fun (v_33 : Int) (h : Heap) =>
  fldK b_16 4 (fun (a_34 : Addr) =>
  loadK .bool h ((some a_34)) (fun (v_35 : Bool) =>
  if v_35 = true then
  newSlK h 1 #[(.int .i64 1)] T.int (fun (v_36 : Sl) (h : Heap) =>
  callK Try.prog (.int .i64) F.ref17_Writer_Byte #[(.pointer w0), (.slice v_36.a v_36.n v_36.c)] (fun (v_37 : Int) (h : Heap) =>
  R (.tuple #[]) h) h)
  else
  newSlK h 1 #[(.int .i64 0)] T.int (fun (v_38 : Sl) (h : Heap) =>
  callK Try.prog (.int .i64) F.ref17_Writer_Byte #[(.pointer w0), (.slice v_38.a v_38.n v_38.c)] (fun (v_39 : Int) (h : Heap) =>
  R (.tuple #[]) h) h)))) h
  else
  if (v_32 == 2) = true then
  fldK b_16 5 (fun (a_40 : Addr) =>
  loadK (.int .i64) h ((some a_40)) (fun (v_41 : Int) =>
  newSlK h 1 #[(.int .i64 v_41)] T.int (fun (v_42 : Sl) (h : Heap) =>
  callK Try.prog (.int .i64) F.ref17_Writer_Byte #[(.pointer w0), (.slice v_42.a v_42.n v_42.c)] (fun (v_43 : Int) (h : Heap) =>
  R (.tuple #[]) h) h)))
  else
  if (v_32 == 5) = true then
  fldK b_16 6 (fun (a_44 : Addr) =>
  loadAggK (sizeOfT Try.prog T.api_Tag) h ((some a_44)) (fun (v_45 : Array Value) =>
  opK Try.prog .slice (Instr.buildSlice T.sl_api_Tag 1 #[(0, (.agg v_45))]) (fun (v_46 : Sl) (h : Heap) =>
  callK Try.prog (.int .i64) F.ref17_Writer_Tag #[(.pointer w0), (.slice v_46.a v_46.n v_46.c)] (fun (v_47 : Int) (h : Heap) =>
  R (.tuple #[]) h) h) h))
  else
  if (v_32 == 7) = true then
  callK Try.prog (.int .i64) F.ref17_Writer_Byte #[(.pointer w0), (.slice v_30.a v_30.n v_30.c)] (fun (v_48 : Int) (h : Heap) =>
  fldK b_16 38 (fun (a_49 : Addr) =>
  loadAggK (sizeOfT Try.prog T.api_Tag) h ((some a_49)) (fun (v_50 : Array Value) =>
  opK Try.prog .slice (Instr.buildSlice T.sl_api_Tag 1 #[(0, (.agg v_50))]) (fun (v_51 : Sl) (h : Heap) =>
  callK Try.prog (.int .i64) F.ref17_Writer_Tag #[(.pointer w0), (.slice v_51.a v_51.n v_51.c)] (fun (v_52 : Int) (h : Heap) =>
  R (.tuple #[]) h) h) h))) h
  else
  R (.tuple #[]) h))))))))))))) h)))))))) h) h))) h)))) h) h)))
def ref18_put.ann : Ann := (.seq .leaf (.seq .leaf (.seq .leaf (.seq .leaf (.seq .leaf (.seq .leaf (.seq .leaf (.seq .leaf (.block (.seq .leaf (.cond (.seq .leaf (.seq .leaf (.cond .leaf .leaf))) (.seq .leaf (.cond .leaf (.seq .leaf (.cond .leaf (.seq .leaf (.cond (.seq .leaf .leaf) .leaf)))))))))))))))))
theorem ref18_put.eq (w0 : Option Addr) (e1 : Array Value) (R : Value → Heap → Prop) (h : Heap) : ref18_put.body w0 e1 R h = evFn Try.prog Try.f42 ref18_put.ann [(.pointer w0), (.agg e1)] R h := by kernel_rfl
theorem ref18_put.calls {w0 : Option Addr} {e1 : Array Value} {R : Value → Heap → Prop} {h : Heap} (H : ref18_put.body w0 e1 R h) : HC Try.prog F.ref18_put #[(.pointer w0), (.agg e1)] R h :=
  evFn_sound mixed Try.func42 (by kernel_rfl) (ref18_put.eq w0 e1 R h ▸ H)

/-! zugzwang/zugzwangref18.PutEntry -/
def ref18_PutEntry.body (e0 : Array Value) (R : Value → Heap → Prop) (h : Heap) : Prop :=
  newK h e0 T.api_Entry (fun (e_1 : Option Addr) (h : Heap) =>
  loadAggK (sizeOfT Try.prog T.api_Entry) h e_1 (fun (v_2 : Array Value) =>
  callK Try.prog .bool F.ref18_Entry #[(.agg v_2)] (fun (v_3 : Bool) (h : Heap) =>
  if (!v_3) = true then
  R (.tuple #[(.slice none 0 0), (.int .i64 2)]) h
  else
  buildK Try.prog (Instr.build T.zugzwangref17_Writer #[]) (fun (v_4 : Array Value) =>
  newK h v_4 T.zugzwangref17_Writer (fun (v_5 : Option Addr) (h : Heap) =>
  loadAggK (sizeOfT Try.prog T.api_Entry) h e_1 (fun (v_6 : Array Value) =>
  callK Try.prog .unit F.ref18_put #[(.pointer v_5), (.agg v_6)] (fun (v_7 : Unit) (h : Heap) =>
  derefK v_5 (fun (a_8 : Addr) =>
  fldK ((some a_8)) 0 (fun (a_9 : Addr) =>
  loadK .slice h ((some a_9)) (fun (v_10 : Sl) =>
  R (.tuple #[(.slice v_10.a v_10.n v_10.c), (.int .i64 0)]) h)))) h)))) h))
def ref18_PutEntry.ann : Ann := (.seq .leaf (.seq (.seq .leaf (.cond (.seq .leaf .leaf) .leaf)) (.seq .leaf (.seq .leaf (.seq .leaf .leaf)))))
theorem ref18_PutEntry.eq (e0 : Array Value) (R : Value → Heap → Prop) (h : Heap) : ref18_PutEntry.body e0 R h = evFn Try.prog Try.f38 ref18_PutEntry.ann [(.agg e0)] R h := by kernel_rfl
theorem ref18_PutEntry.calls {e0 : Array Value} {R : Value → Heap → Prop} {h : Heap} (H : ref18_PutEntry.body e0 R h) : HC Try.prog F.ref18_PutEntry #[(.agg e0)] R h :=
  evFn_sound mixed Try.func38 (by kernel_rfl) (ref18_PutEntry.eq e0 R h ▸ H)

/-! zugzwang/zugzwangref20.Tag -/
def ref20_Tag.body (m0 : Option Addr) (e1 : Array Value) (R : Value → Heap → Prop) (h : Heap) : Prop :=
  newK h e1 T.api_Entry (fun (e_1 : Option Addr) (h : Heap) =>
  newK h (zerosOf Try.prog T.api_Tag) T.api_Tag (fun (v_2 : Option Addr) (h : Heap) =>
  loadAggK (sizeOfT Try.prog T.api_Entry) h e_1 (fun (v_3 : Array Value) =>
  callK Try.prog (Kd.pair .slice (.int .i64)) F.ref18_PutEntry #[(.agg v_3)] (fun (v_4 : Sl × Int) (h : Heap) =>
  newSlK h 4 #[(.int .u8 108), (.int .u8 105), (.int .u8 110), (.int .u8 107)] T.uint8 (fun (v_5 : Sl) (h : Heap) =>
  opK Try.prog .slice (convert T.sl_uint8 T.sl_uint8 (.slice v_5.a v_5.n v_5.c)) (fun (v_6 : Sl) (h : Heap) =>
  opK Try.prog .slice (Builtin.append_ #[T.sl_uint8, T.sl_uint8] T.sl_uint8 #[(.slice v_6.a v_6.n v_6.c), (.slice v_4.1.a v_4.1.n v_4.1.c)]) (fun (v_7 : Sl) (h : Heap) =>
  callK Try.prog .agg F.ref04_Maker_Sum #[(.pointer m0), (.slice v_7.a v_7.n v_7.c)] (fun (v_8 : Array Value) (h : Heap) =>
  storeAggK (sizeOfT Try.prog T.api_Tag) h v_2 v_8 (fun (h : Heap) =>
  quietK Try.prog .agg (Instr.loadAt T.api_Tag (.pointer v_2)) (fun (r_9 : Array Value) =>
  R (.agg r_9) h) h)) h) h) h)) h)))
def ref20_Tag.ann : Ann := (.seq .leaf (.seq .leaf (.seq .leaf .leaf)))
theorem ref20_Tag.eq (m0 : Option Addr) (e1 : Array Value) (R : Value → Heap → Prop) (h : Heap) : ref20_Tag.body m0 e1 R h = evFn Try.prog Try.f36 ref20_Tag.ann [(.pointer m0), (.agg e1)] R h := by kernel_rfl
theorem ref20_Tag.calls {m0 : Option Addr} {e1 : Array Value} {R : Value → Heap → Prop} {h : Heap} (H : ref20_Tag.body m0 e1 R h) : HC Try.prog F.ref20_Tag #[(.pointer m0), (.agg e1)] R h :=
  evFn_sound mixed Try.func36 (by kernel_rfl) (ref20_Tag.eq m0 e1 R h ▸ H)

/-! (*zugzwang/zugzwangref20.Chain).Head -/
def ref20_Chain_Head.body (c0 : Option Addr) (R : Value → Heap → Prop) (h : Heap) : Prop :=
  newK h (zerosOf Try.prog T.api_Tag) T.api_Tag (fun (v_1 : Option Addr) (h : Heap) =>
  derefK c0 (fun (a_2 : Addr) =>
  fldK ((some a_2)) 33 (fun (a_3 : Addr) =>
  loadK .slice h ((some a_3)) (fun (v_4 : Sl) =>
  if (((v_4.n : Int)) == 0) = true then
  derefK c0 (fun (a_5 : Addr) =>
  fldK ((some a_5)) 0 (fun (a_6 : Addr) =>
  derefK c0 (fun (a_7 : Addr) =>
  fldK ((some a_7)) 1 (fun (a_8 : Addr) =>
  loadK .ptr h ((some a_6)) (fun (v_9 : Option Addr) =>
  loadAggK (sizeOfT Try.prog T.api_Tag) h ((some a_8)) (fun (v_10 : Array Value) =>
  callK Try.prog .agg F.ref20_Root #[(.pointer v_9), (.agg v_10)] (fun (v_11 : Array Value) (h : Heap) =>
  storeAggK (sizeOfT Try.prog T.api_Tag) h v_1 v_11 (fun (h : Heap) =>
  quietK Try.prog .agg (Instr.loadAt T.api_Tag (.pointer v_1)) (fun (r_12 : Array Value) =>
  R (.agg r_12) h) h)) h))))))
  else
  derefK c0 (fun (a_13 : Addr) =>
  fldK ((some a_13)) 0 (fun (a_14 : Addr) =>
  derefK c0 (fun (a_15 : Addr) =>
  fldK ((some a_15)) 33 (fun (a_16 : Addr) =>
  derefK c0 (fun (a_17 : Addr) =>
  fldK ((some a_17)) 33 (fun (a_18 : Addr) =>
  loadK .ptr h ((some a_14)) (fun (v_19 : Option Addr) =>
  loadK .slice h ((some a_16)) (fun (v_20 : Sl) =>
  loadK .slice h ((some a_18)) (fun (v_21 : Sl) =>
  idxK v_20 (IntKind.i64.wrap (((v_21.n : Int)) - 1)) (sizeOfT Try.prog T.api_Entry) (fun (a_22 : Addr) =>
  loadAggK (sizeOfT Try.prog T.api_Entry) h ((some a_22)) (fun (v_23 : Array Value) =>
  callK Try.prog .agg F.ref20_Tag #[(.pointer v_19), (.agg v_23)] (fun (v_24 : Array Value) (h : Heap) =>
  storeAggK (sizeOfT Try.prog T.api_Tag) h v_1 v_24 (fun (h : Heap) =>
  quietK Try.prog .agg (Instr.loadAt T.api_Tag (.pointer v_1)) (fun (r_25 : Array Value) =>
  R (.agg r_25) h) h)) h)))))))))))))))
def ref20_Chain_Head.ann : Ann := (.seq .leaf (.seq (.seq .leaf (.cond (.seq (.any (.loc 0 (.loc 1 (.loc 2 (.loc 4 (.loc 5 (.loc 6 (.st 3 768 (.st 7 768 (.last 8 (.last 9 .done))))))))))) .leaf) .leaf)) (.seq (.any (.loc 0 (.loc 1 (.loc 2 (.loc 4 (.loc 5 (.loc 6 (.loc 8 (.loc 9 (.loc 10 (.st 3 196608 (.st 7 245760 (.st 11 258048 (.loc 12 (.loc 13 (.loc 14 (.st 15 196608 (.last 16 (.last 17 .done))))))))))))))))))) .leaf)))
theorem ref20_Chain_Head.eq (c0 : Option Addr) (R : Value → Heap → Prop) (h : Heap) : ref20_Chain_Head.body c0 R h = evFn Try.prog Try.f33 ref20_Chain_Head.ann [(.pointer c0)] R h := by kernel_rfl
theorem ref20_Chain_Head.calls {c0 : Option Addr} {R : Value → Heap → Prop} {h : Heap} (H : ref20_Chain_Head.body c0 R h) : HC Try.prog F.ref20_Chain_Head #[(.pointer c0)] R h :=
  evFn_sound mixed Try.func33 (by kernel_rfl) (ref20_Chain_Head.eq c0 R h ▸ H)

/-! (*zugzwang/zugzwangref20.Chain).Next -/
def ref20_Chain_Next.body (c0 : Option Addr) (b1 : Array Value) (R : Value → Heap → Prop) (h : Heap) : Prop :=
  newK h b1 T.api_Body (fun (b_1 : Option Addr) (h : Heap) =>
  newK h (zerosOf Try.prog T.api_Entry) T.api_Entry (fun (v_2 : Option Addr) (h : Heap) =>
  loadAggK (sizeOfT Try.prog T.api_Body) h b_1 (fun (v_3 : Array Value) =>
  callK Try.prog .bool F.ref18_Body #[(.agg v_3)] (fun (v_4 : Bool) (h : Heap) =>
  if (!v_4) = true then
  buildK Try.prog (Instr.build T.api_Entry #[]) (fun (v_5 : Array Value) =>
  storeAggK (sizeOfT Try.prog T.api_Entry) h v_2 v_5 (fun (h : Heap) =>
  quietK Try.prog .agg (Instr.loadAt T.api_Entry (.pointer v_2)) (fun (r_6 : Array Value) =>
  R (.tuple #[(.agg r_6), (.int .i64 2)]) h) h))
  else
  derefK c0 (fun (a_7 : Addr) =>
  fldK ((some a_7)) 1 (fun (a_8 : Addr) =>
  derefK c0 (fun (a_9 : Addr) =>
  fldK ((some a_9)) 33 (fun (a_10 : Addr) =>
  loadAggK (sizeOfT Try.prog T.api_Tag) h ((some a_8)) (fun (v_11 : Array Value) =>
  loadK .slice h ((some a_10)) (fun (v_12 : Sl) =>
  loadAggK (sizeOfT Try.prog T.api_Body) h b_1 (fun (v_13 : Array Value) =>
  callK Try.prog .agg F.ref20_Chain_Head #[(.pointer c0)] (fun (v_14 : Array Value) (h : Heap) =>
  stillAggK (sizeOfT Try.prog T.api_Body) h b_1 v_13 ∧
  stillK .slice h ((some a_10)) v_12 ∧
  stillAggK (sizeOfT Try.prog T.api_Tag) h ((some a_8)) v_11 ∧
  buildK Try.prog (Instr.build T.api_Entry #[(0, (.agg v_11)), (1, (.int .i64 ((v_12.n : Int)))), (2, (.agg v_14)), (3, (.agg v_13))]) (fun (v_15 : Array Value) =>
  storeAggK (sizeOfT Try.prog T.api_Entry) h v_2 v_15 (fun (h : Heap) =>
  quietK Try.prog .agg (Instr.loadAt T.api_Entry (.pointer v_2)) (fun (r_16 : Array Value) =>
  R (.tuple #[(.agg r_16), (.int .i64 0)]) h) h))) h)))))))) h)))
def ref20_Chain_Next.ann : Ann := (.seq .leaf (.seq (.seq .leaf (.cond (.seq .leaf .leaf) .leaf)) (.seq (.any (.loc 0 (.loc 1 (.loc 2 (.loc 4 (.loc 5 (.loc 6 (.loc 9 (.st 3 28672 (.st 7 28928 (.loc 8 (.st 11 28672 (.last 10 (.loc 12 (.last 13 (.loc 14 .done)))))))))))))))) .leaf)))
theorem ref20_Chain_Next.eq (c0 : Option Addr) (b1 : Array Value) (R : Value → Heap → Prop) (h : Heap) : ref20_Chain_Next.body c0 b1 R h = evFn Try.prog Try.f28 ref20_Chain_Next.ann [(.pointer c0), (.agg b1)] R h := by kernel_rfl
theorem ref20_Chain_Next.calls {c0 : Option Addr} {b1 : Array Value} {R : Value → Heap → Prop} {h : Heap} (H : ref20_Chain_Next.body c0 b1 R h) : HC Try.prog F.ref20_Chain_Next #[(.pointer c0), (.agg b1)] R h :=
  evFn_sound mixed Try.func28 (by kernel_rfl) (ref20_Chain_Next.eq c0 b1 R h ▸ H)

/-! zugzwang/zugzwanglaw21.linked -/
def law21_linked.body (game0 : Array Value) (l1 : Sl) (R : Value → Heap → Prop) (h : Heap) : Prop :=
  newK h game0 T.api_Tag (fun (game_1 : Option Addr) (h : Heap) =>
  loadAggK (sizeOfT Try.prog T.api_Tag) h game_1 (fun (v_2 : Array Value) =>
  callK Try.prog .ptr F.law21_real #[] (fun (v_3 : Option Addr) (h : Heap) =>
  stillAggK (sizeOfT Try.prog T.api_Tag) h game_1 v_2 ∧
  buildK Try.prog (Instr.build T.zugzwangref20_Chain #[(0, (.pointer v_3)), (1, (.agg v_2))]) (fun (v_4 : Array Value) =>
  newK h v_4 T.zugzwangref20_Chain (fun (v_5 : Option Addr) (h : Heap) =>
  loopW (fun X_7 (s_6 : Int) (h : Heap) =>
  if (decide (s_6 < ((l1.n : Int)))) = true then
  idxK l1 s_6 (sizeOfT Try.prog T.api_Body) (fun (a_8 : Addr) =>
  loadAggK (sizeOfT Try.prog T.api_Body) h ((some a_8)) (fun (v_9 : Array Value) =>
  callK Try.prog (Kd.pair .agg (.int .i64)) F.ref20_Chain_Next #[(.pointer v_5), (.agg v_9)] (fun (v_10 : Array Value × Int) (h : Heap) =>
  newK h (zerosOf Try.prog T.api_Entry) T.api_Entry (fun (e_11 : Option Addr) (h : Heap) =>
  storeAggK (sizeOfT Try.prog T.api_Entry) h e_11 v_10.1 (fun (h : Heap) =>
  joinW (fun (s_12 : Unit) (h : Heap) =>
  derefK v_5 (fun (a_13 : Addr) =>
  fldK ((some a_13)) 33 (fun (a_14 : Addr) =>
  loadK .slice h ((some a_14)) (fun (v_15 : Sl) =>
  loadAggK (sizeOfT Try.prog T.api_Entry) h e_11 (fun (v_16 : Array Value) =>
  opK Try.prog .slice (Instr.buildSlice T.sl_api_Entry 1 #[(0, (.agg v_16))]) (fun (v_17 : Sl) (h : Heap) =>
  opK Try.prog .slice (Builtin.append_ #[T.sl_api_Entry, T.sl_api_Entry] T.sl_api_Entry #[(.slice v_15.a v_15.n v_15.c), (.slice v_17.a v_17.n v_17.c)]) (fun (v_18 : Sl) (h : Heap) =>
  derefK v_5 (fun (a_19 : Addr) =>
  fldK ((some a_19)) 33 (fun (a_20 : Addr) =>
  storeK h ((some a_20)) (.slice v_18.a v_18.n v_18.c) (fun (h : Heap) =>
  X_7 (IntKind.i64.wrap (s_6 + 1)) h)))) h) h)))))
  (fun J_21 =>
  if (v_10.2 != 0) = true then
  buildK Try.prog (Instr.build T.api_Body #[(0, (.int .i64 4))]) (fun (v_22 : Array Value) =>
  callK Try.prog (Kd.pair .agg (.int .i64)) F.ref20_Chain_Next #[(.pointer v_5), (.agg v_22)] (fun (v_23 : Array Value × Int) (h : Heap) =>
  storeAggK (sizeOfT Try.prog T.api_Entry) h e_11 v_23.1 (fun (h : Heap) =>
  J_21 () h)) h)
  else
  J_21 () h)))) h))
  else
  derefK v_5 (fun (a_24 : Addr) =>
  fldK ((some a_24)) 33 (fun (a_25 : Addr) =>
  loadK .slice h ((some a_25)) (fun (v_26 : Sl) =>
  R (.slice v_26.a v_26.n v_26.c) h)))) 0 h))) h))
def law21_linked.ann : Ann := (.seq .leaf (.seq (.any (.st 1 28 (.last 0 (.loc 2 (.last 3 (.loc 4 .done)))))) (.seq (.seq .leaf (.block (.loop [(6, (.int .i64))] (.seq (.seq .leaf (.cond .leaf .leaf)) (.seq (.block (.seq .leaf (.join [] (.seq .leaf (.cond .leaf .leaf)) (.any (.loc 0 (.loc 1 (.loc 2 (.loc 3 (.st 4 1920 (.st 5 1984 (.last 6 (.last 7 (.loc 8 (.loc 9 (.last 10 .done))))))))))))))) .leaf))))) (.seq .leaf .leaf))))
theorem law21_linked.eq (game0 : Array Value) (l1 : Sl) (R : Value → Heap → Prop) (h : Heap) : law21_linked.body game0 l1 R h = evFn Try.prog Try.f21 law21_linked.ann [(.agg game0), (.slice l1.a l1.n l1.c)] R h := by kernel_rfl
theorem law21_linked.calls {game0 : Array Value} {l1 : Sl} {R : Value → Heap → Prop} {h : Heap} (H : law21_linked.body game0 l1 R h) : HC Try.prog F.law21_linked #[(.agg game0), (.slice l1.a l1.n l1.c)] R h :=
  evFn_sound mixed Try.func21 (by kernel_rfl) (law21_linked.eq game0 l1 R h ▸ H)

/-! zugzwang/zugzwanglaw21.awake -/
def law21_awake.body  (R : Value → Heap → Prop) (h : Heap) : Prop :=
  buildK Try.prog (Instr.build T.api_Body #[(0, (.int .i64 4))]) (fun (v_1 : Array Value) =>
  newK h (zerosOf Try.prog T.api_Body) T.api_Body (fun (r_2 : Option Addr) (h : Heap) =>
  storeAggK (sizeOfT Try.prog T.api_Body) h r_2 v_1 (fun (h : Heap) =>
  buildK Try.prog (Instr.build T.api_Tag #[]) (fun (v_3 : Array Value) =>
  loadAggK (sizeOfT Try.prog T.api_Body) h r_2 (fun (v_4 : Array Value) =>
  loadAggK (sizeOfT Try.prog T.api_Body) h r_2 (fun (v_5 : Array Value) =>
  loadAggK (sizeOfT Try.prog T.api_Body) h r_2 (fun (v_6 : Array Value) =>
  loadAggK (sizeOfT Try.prog T.api_Body) h r_2 (fun (v_7 : Array Value) =>
  loadAggK (sizeOfT Try.prog T.api_Body) h r_2 (fun (v_8 : Array Value) =>
  opK Try.prog .slice (Instr.buildSlice T.sl_api_Body 5 #[(0, (.agg v_4)), (1, (.agg v_5)), (2, (.agg v_6)), (3, (.agg v_7)), (4, (.agg v_8))]) (fun (v_9 : Sl) (h : Heap) =>
  callK Try.prog .slice F.law21_linked #[(.agg v_3), (.slice v_9.a v_9.n v_9.c)] (fun (v_10 : Sl) (h : Heap) =>
  buildK Try.prog (Instr.build T.api_Tag #[]) (fun (v_11 : Array Value) =>
  loadAggK (sizeOfT Try.prog T.api_Body) h r_2 (fun (v_12 : Array Value) =>
  buildK Try.prog (Instr.build T.api_Body #[(0, (.int .i64 3))]) (fun (v_13 : Array Value) =>
  opK Try.prog .slice (Instr.buildSlice T.sl_api_Body 2 #[(0, (.agg v_12)), (1, (.agg v_13))]) (fun (v_14 : Sl) (h : Heap) =>
  callK Try.prog .slice F.law21_linked #[(.agg v_11), (.slice v_14.a v_14.n v_14.c)] (fun (v_15 : Sl) (h : Heap) =>
  sliceK v_10 none (some 3) none (sizeOfT Try.prog T.api_Entry) (fun (v_16 : Sl) =>
  callK Try.prog (Kd.pair (.int .i64) (.int .i64)) F.fork_Compare #[(.slice v_16.a v_16.n v_16.c), (.slice v_10.a v_10.n v_10.c)] (fun (v_17 : Int × Int) (h : Heap) =>
  callK Try.prog (Kd.pair (.int .i64) (.int .i64)) F.fork_Compare #[(.slice v_10.a v_10.n v_10.c), (.slice v_15.a v_15.n v_15.c)] (fun (v_18 : Int × Int) (h : Heap) =>
  if (v_17.1 == 2) = true then
  if (v_17.2 == 3) = true then
  if (v_18.1 == 4) = true then
  if (v_18.2 == 1) = true then
  callK Try.prog (.int .i64) F.fork_Signer #[(.int .i64 1)] (fun (v_19 : Int) (h : Heap) =>
  if (v_19 == 1) = true then
  sliceK v_10 none (some 2) none (sizeOfT Try.prog T.api_Entry) (fun (v_20 : Sl) =>
  callK Try.prog .bool F.fork_Rolled #[(.slice v_10.a v_10.n v_10.c), (.slice v_20.a v_20.n v_20.c)] (fun (v_21 : Bool) (h : Heap) =>
  if v_21 = true then
  callK Try.prog .bool F.fork_Rolled #[(.slice v_10.a v_10.n v_10.c), (.slice v_10.a v_10.n v_10.c)] (fun (v_22 : Bool) (h : Heap) =>
  R (.bool (!v_22)) h) h
  else
  R (.bool false) h) h)
  else
  R (.bool false) h) h
  else
  R (.bool false) h
  else
  R (.bool false) h
  else
  R (.bool false) h
  else
  R (.bool false) h) h) h)) h) h)))) h) h)))))))))
def law21_awake.ann : Ann := (.seq .leaf (.seq .leaf (.seq .leaf (.seq .leaf (.seq .leaf (.seq .leaf (.seq .leaf .leaf)))))))
theorem law21_awake.eq  (R : Value → Heap → Prop) (h : Heap) : law21_awake.body  R h = evFn Try.prog Try.f6 law21_awake.ann [] R h := by kernel_rfl
theorem law21_awake.calls  {R : Value → Heap → Prop} {h : Heap} (H : law21_awake.body  R h) : HC Try.prog F.law21_awake #[] R h :=
  evFn_sound mixed Try.func6 (by kernel_rfl) (law21_awake.eq  R h ▸ H)

/-! zugzwang/zugzwangkit.mark -/
def kit_mark.body (k0 : Int) (i1 : Int) (R : Value → Heap → Prop) (h : Heap) : Prop :=
  R (.int .i64 (IntKind.i64.wrap ((IntKind.i64.wrap (1000003 * (IntKind.i64.wrap (k0 + 7)))) + i1))) h
def kit_mark.ann : Ann := (.seq .leaf (.seq .leaf .leaf))
theorem kit_mark.eq (k0 : Int) (i1 : Int) (R : Value → Heap → Prop) (h : Heap) : kit_mark.body k0 i1 R h = evFn Try.prog Try.f29 kit_mark.ann [(.int .i64 k0), (.int .i64 i1)] R h := by kernel_rfl
theorem kit_mark.calls {k0 : Int} {i1 : Int} {R : Value → Heap → Prop} {h : Heap} (H : kit_mark.body k0 i1 R h) : HC Try.prog F.kit_mark #[(.int .i64 k0), (.int .i64 i1)] R h :=
  evFn_sound mixed Try.func29 (by kernel_rfl) (kit_mark.eq k0 i1 R h ▸ H)

/-! zugzwang/zugzwangkit.markEntry -/
def kit_markEntry.body (k0 : Int) (i1 : Int) (R : Value → Heap → Prop) (h : Heap) : Prop :=
  newK h (zerosOf Try.prog T.api_Entry) T.api_Entry (fun (v_1 : Option Addr) (h : Heap) =>
  callK Try.prog (.int .i64) F.kit_mark #[(.int .i64 k0), (.int .i64 i1)] (fun (v_2 : Int) (h : Heap) =>
  buildK Try.prog (Instr.build T.api_Entry #[(1, (.int .i64 v_2))]) (fun (v_3 : Array Value) =>
  storeAggK (sizeOfT Try.prog T.api_Entry) h v_1 v_3 (fun (h : Heap) =>
  quietK Try.prog .agg (Instr.loadAt T.api_Entry (.pointer v_1)) (fun (r_4 : Array Value) =>
  R (.agg r_4) h) h))) h)
def kit_markEntry.ann : Ann := (.seq .leaf (.seq .leaf .leaf))
theorem kit_markEntry.eq (k0 : Int) (i1 : Int) (R : Value → Heap → Prop) (h : Heap) : kit_markEntry.body k0 i1 R h = evFn Try.prog Try.f22 kit_markEntry.ann [(.int .i64 k0), (.int .i64 i1)] R h := by kernel_rfl
theorem kit_markEntry.calls {k0 : Int} {i1 : Int} {R : Value → Heap → Prop} {h : Heap} (H : kit_markEntry.body k0 i1 R h) : HC Try.prog F.kit_markEntry #[(.int .i64 k0), (.int .i64 i1)] R h :=
  evFn_sound mixed Try.func22 (by kernel_rfl) (kit_markEntry.eq k0 i1 R h ▸ H)

/-! zugzwang/zugzwangkit.LentEntries -/
def kit_LentEntries.body (l0 : Sl) (R : Value → Heap → Prop) (h : Heap) : Prop :=
  opK Try.prog .slice (Instr.makeSlice T.sl_api_Entry (.int .i64 0) (.int .i64 (IntKind.i64.wrap (((l0.n : Int)) + 12)))) (fun (v_1 : Sl) (h : Heap) =>
  opK Try.prog .slice (Builtin.append_ #[T.sl_api_Entry, T.sl_api_Entry] T.sl_api_Entry #[(.slice v_1.a v_1.n v_1.c), (.slice l0.a l0.n l0.c)]) (fun (v_2 : Sl) (h : Heap) =>
  loopW (fun X_4 (s_3 : Sl × Int) (h : Heap) =>
  if (decide (s_3.2 < 12)) = true then
  callK Try.prog .agg F.kit_markEntry #[(.int .i64 1), (.int .i64 s_3.2)] (fun (v_5 : Array Value) (h : Heap) =>
  opK Try.prog .slice (Instr.buildSlice T.sl_api_Entry 1 #[(0, (.agg v_5))]) (fun (v_6 : Sl) (h : Heap) =>
  opK Try.prog .slice (Builtin.append_ #[T.sl_api_Entry, T.sl_api_Entry] T.sl_api_Entry #[(.slice s_3.1.a s_3.1.n s_3.1.c), (.slice v_6.a v_6.n v_6.c)]) (fun (v_7 : Sl) (h : Heap) =>
  X_4 (v_7, IntKind.i64.wrap (s_3.2 + 1)) h) h) h) h
  else
  sliceK s_3.1 none (some ((l0.n : Int))) none (sizeOfT Try.prog T.api_Entry) (fun (v_8 : Sl) =>
  R (.slice v_8.a v_8.n v_8.c) h)) (v_2, 0) h) h) h
def kit_LentEntries.ann : Ann := (.seq .leaf (.seq .leaf (.seq .leaf (.seq (.seq .leaf (.block (.loop [(3, .slice), (4, (.int .i64))] (.seq (.seq .leaf (.cond .leaf .leaf)) (.seq (.block .leaf) .leaf))))) (.seq .leaf .leaf)))))
theorem kit_LentEntries.eq (l0 : Sl) (R : Value → Heap → Prop) (h : Heap) : kit_LentEntries.body l0 R h = evFn Try.prog Try.f7 kit_LentEntries.ann [(.slice l0.a l0.n l0.c)] R h := by kernel_rfl
theorem kit_LentEntries.calls {l0 : Sl} {R : Value → Heap → Prop} {h : Heap} (H : kit_LentEntries.body l0 R h) : HC Try.prog F.kit_LentEntries #[(.slice l0.a l0.n l0.c)] R h :=
  evFn_sound mixed Try.func7 (by kernel_rfl) (kit_LentEntries.eq l0 R h ▸ H)

/-! zugzwang/zugzwangref21.Compare -/
def ref21_Compare.body (a0 : Sl) (b1 : Sl) (R : Value → Heap → Prop) (h : Heap) : Prop :=
  loopW (fun X_2 (s_1 : Int) (h : Heap) =>
  if (decide (s_1 < (if ((b1.n : Int)) < ((a0.n : Int)) then ((b1.n : Int)) else ((a0.n : Int))))) = true then
  idxK a0 s_1 (sizeOfT Try.prog T.api_Entry) (fun (a_3 : Addr) =>
  loadAggK (sizeOfT Try.prog T.api_Entry) h ((some a_3)) (fun (v_4 : Array Value) =>
  idxK b1 s_1 (sizeOfT Try.prog T.api_Entry) (fun (a_5 : Addr) =>
  loadAggK (sizeOfT Try.prog T.api_Entry) h ((some a_5)) (fun (v_6 : Array Value) =>
  eqK Try.prog (binSem .neq T.api_Entry (.tmp 21) (.tmp 25) (.agg v_4) (.agg v_6)) (fun (v_7 : Bool) =>
  if v_7 = true then
  R (.tuple #[(.int .i64 4), (.int .i64 s_1)]) h
  else
  X_2 (IntKind.i64.wrap (s_1 + 1)) h)))))
  else
  if (decide (((a0.n : Int)) < ((b1.n : Int)))) = true then
  R (.tuple #[(.int .i64 2), (.int .i64 (if ((b1.n : Int)) < ((a0.n : Int)) then ((b1.n : Int)) else ((a0.n : Int))))]) h
  else
  if (decide (((a0.n : Int)) > ((b1.n : Int)))) = true then
  R (.tuple #[(.int .i64 3), (.int .i64 (if ((b1.n : Int)) < ((a0.n : Int)) then ((b1.n : Int)) else ((a0.n : Int))))]) h
  else
  R (.tuple #[(.int .i64 1), (.int .i64 (if ((b1.n : Int)) < ((a0.n : Int)) then ((b1.n : Int)) else ((a0.n : Int))))]) h) 0 h
def ref21_Compare.ann : Ann := (.seq .leaf (.seq .leaf (.seq (.seq .leaf (.block (.loop [(7, (.int .i64))] (.seq (.seq .leaf (.cond .leaf .leaf)) (.seq (.block (.seq .leaf (.cond (.seq .leaf .leaf) .leaf))) .leaf))))) (.seq (.block (.seq .leaf (.cond (.seq .leaf .leaf) (.seq .leaf (.cond (.seq .leaf .leaf) .leaf))))) (.seq .leaf .leaf)))))
theorem ref21_Compare.eq (a0 : Sl) (b1 : Sl) (R : Value → Heap → Prop) (h : Heap) : ref21_Compare.body a0 b1 R h = evFn Try.prog Try.f9 ref21_Compare.ann [(.slice a0.a a0.n a0.c), (.slice b1.a b1.n b1.c)] R h := by kernel_rfl
theorem ref21_Compare.calls {a0 : Sl} {b1 : Sl} {R : Value → Heap → Prop} {h : Heap} (H : ref21_Compare.body a0 b1 R h) : HC Try.prog F.ref21_Compare #[(.slice a0.a a0.n a0.c), (.slice b1.a b1.n b1.c)] R h :=
  evFn_sound mixed Try.func9 (by kernel_rfl) (ref21_Compare.eq a0 b1 R h ▸ H)

/-! zugzwang/zugzwangref21.Rolled -/
def ref21_Rolled.body (old0 : Sl) (now1 : Sl) (R : Value → Heap → Prop) (h : Heap) : Prop :=
  callK Try.prog (Kd.pair (.int .i64) (.int .i64)) F.ref21_Compare #[(.slice now1.a now1.n now1.c), (.slice old0.a old0.n old0.c)] (fun (v_1 : Int × Int) (h : Heap) =>
  R (.bool (v_1.1 == 2)) h) h
def ref21_Rolled.ann : Ann := (.seq .leaf (.seq .leaf (.seq .leaf .leaf)))
theorem ref21_Rolled.eq (old0 : Sl) (now1 : Sl) (R : Value → Heap → Prop) (h : Heap) : ref21_Rolled.body old0 now1 R h = evFn Try.prog Try.f11 ref21_Rolled.ann [(.slice old0.a old0.n old0.c), (.slice now1.a now1.n now1.c)] R h := by kernel_rfl
theorem ref21_Rolled.calls {old0 : Sl} {now1 : Sl} {R : Value → Heap → Prop} {h : Heap} (H : ref21_Rolled.body old0 now1 R h) : HC Try.prog F.ref21_Rolled #[(.slice old0.a old0.n old0.c), (.slice now1.a now1.n now1.c)] R h :=
  evFn_sound mixed Try.func11 (by kernel_rfl) (ref21_Rolled.eq old0 now1 R h ▸ H)

/-! zugzwang/zugzwangref21.Signer -/
def ref21_Signer.body (n0 : Int) (R : Value → Heap → Prop) (h : Heap) : Prop :=
  divK 2
  (if ((Int.tmod n0 2) == 0) = true then
  R (.int .i64 0) h
  else
  R (.int .i64 1) h)
def ref21_Signer.ann : Ann := (.seq .leaf (.seq (.seq .leaf (.cond (.seq .leaf .leaf) .leaf)) (.seq .leaf .leaf)))
theorem ref21_Signer.eq (n0 : Int) (R : Value → Heap → Prop) (h : Heap) : ref21_Signer.body n0 R h = evFn Try.prog Try.f13 ref21_Signer.ann [(.int .i64 n0)] R h := by kernel_rfl
theorem ref21_Signer.calls {n0 : Int} {R : Value → Heap → Prop} {h : Heap} (H : ref21_Signer.body n0 R h) : HC Try.prog F.ref21_Signer #[(.int .i64 n0)] R h :=
  evFn_sound mixed Try.func13 (by kernel_rfl) (ref21_Signer.eq n0 R h ▸ H)

/-! zugzwang/zugzwangkit.KeptEntries -/
def kit_KeptEntries.body (out0 : Sl) (l1 : Sl) (R : Value → Heap → Prop) (h : Heap) : Prop :=
  if (((out0.n : Int)) != ((l1.n : Int))) = true then
  R (.bool false) h
  else
  sliceK out0 none (some (IntKind.i64.wrap (((l1.n : Int)) + 12))) none (sizeOfT Try.prog T.api_Entry) (fun (v_1 : Sl) =>
  loopW (fun X_3 (s_2 : Int) (h : Heap) =>
  if (decide (s_2 < ((v_1.n : Int)))) = true then
  if (decide (s_2 < ((l1.n : Int)))) = true then
  idxK v_1 s_2 (sizeOfT Try.prog T.api_Entry) (fun (a_4 : Addr) =>
  idxK l1 s_2 (sizeOfT Try.prog T.api_Entry) (fun (a_5 : Addr) =>
  loadAggK (sizeOfT Try.prog T.api_Entry) h ((some a_4)) (fun (v_6 : Array Value) =>
  loadAggK (sizeOfT Try.prog T.api_Entry) h ((some a_5)) (fun (v_7 : Array Value) =>
  eqK Try.prog (binSem .eql T.api_Entry (.tmp 31) (.tmp 35) (.agg v_6) (.agg v_7)) (fun (v_8 : Bool) =>
  if (!v_8) = true then
  R (.bool false) h
  else
  if (decide (s_2 ≥ ((l1.n : Int)))) = true then
  idxK v_1 s_2 (sizeOfT Try.prog T.api_Entry) (fun (a_9 : Addr) =>
  loadAggK (sizeOfT Try.prog T.api_Entry) h ((some a_9)) (fun (v_10 : Array Value) =>
  callK Try.prog .agg F.kit_markEntry #[(.int .i64 1), (.int .i64 (IntKind.i64.wrap (s_2 - ((l1.n : Int)))))] (fun (v_11 : Array Value) (h : Heap) =>
  stillAggK (sizeOfT Try.prog T.api_Entry) h ((some a_9)) v_10 ∧
  eqK Try.prog (binSem .eql T.api_Entry (.tmp 48) (.tmp 53) (.agg v_10) (.agg v_11)) (fun (v_12 : Bool) =>
  if (!v_12) = true then
  R (.bool false) h
  else
  X_3 (IntKind.i64.wrap (s_2 + 1)) h)) h))
  else
  X_3 (IntKind.i64.wrap (s_2 + 1)) h)))))
  else
  if (decide (s_2 ≥ ((l1.n : Int)))) = true then
  idxK v_1 s_2 (sizeOfT Try.prog T.api_Entry) (fun (a_13 : Addr) =>
  loadAggK (sizeOfT Try.prog T.api_Entry) h ((some a_13)) (fun (v_14 : Array Value) =>
  callK Try.prog .agg F.kit_markEntry #[(.int .i64 1), (.int .i64 (IntKind.i64.wrap (s_2 - ((l1.n : Int)))))] (fun (v_15 : Array Value) (h : Heap) =>
  stillAggK (sizeOfT Try.prog T.api_Entry) h ((some a_13)) v_14 ∧
  eqK Try.prog (binSem .eql T.api_Entry (.tmp 48) (.tmp 53) (.agg v_14) (.agg v_15)) (fun (v_16 : Bool) =>
  if (!v_16) = true then
  R (.bool false) h
  else
  X_3 (IntKind.i64.wrap (s_2 + 1)) h)) h))
  else
  X_3 (IntKind.i64.wrap (s_2 + 1)) h
  else
  R (.bool true) h) 0 h)
def kit_KeptEntries.ann : Ann := (.seq .leaf (.seq (.seq .leaf (.cond (.seq .leaf .leaf) .leaf)) (.seq .leaf (.seq (.seq .leaf (.block (.loop [(6, (.int .i64))] (.seq (.seq .leaf (.cond .leaf .leaf)) (.seq (.block (.seq (.any (.loc 0 (.loc 1 (.loc 2 (.loc 3 (.loc 4 (.locA 5 (.loc 6 (.loc 7 (.loc 9 (.loc 10 (.loc 11 (.st 8 34359730176 (.st 12 34359730176 (.loc 13 (.loc 14 (.loc 15 (.loc 16 (.locA 17 (.loc 18 (.loc 19 (.loc 20 (.loc 21 (.loc 22 (.loc 23 (.loc 24 (.loc 25 (.loc 26 (.loc 27 (.loc 28 (.loc 29 (.loc 30 (.loc 31 (.loc 32 (.loc 33 (.loc 34 .done))))))))))))))))) (.loc 18 (.loc 19 (.loc 20 (.loc 21 (.locA 22 (.loc 23 (.loc 24 (.loc 26 (.loc 27 (.loc 28 (.loc 29 (.st 25 32212254720 (.last 30 (.loc 31 (.loc 32 (.loc 33 (.loc 34 .done)))))))))))) (.loc 23 (.loc 24 (.loc 25 (.loc 26 (.loc 27 (.loc 28 (.loc 29 (.loc 30 (.loc 31 (.loc 32 (.loc 33 (.loc 34 .done))))))))))))))))))))))))))))) (.loc 6 (.loc 7 (.loc 8 (.loc 9 (.loc 10 (.loc 11 (.loc 12 (.loc 13 (.loc 14 (.loc 15 (.loc 16 (.loc 17 (.loc 18 (.loc 19 (.loc 20 (.loc 21 (.locA 22 (.loc 23 (.loc 24 (.loc 26 (.loc 27 (.loc 28 (.loc 29 (.st 25 32212254720 (.last 30 (.loc 31 (.loc 32 (.loc 33 (.loc 34 .done)))))))))))) (.loc 23 (.loc 24 (.loc 25 (.loc 26 (.loc 27 (.loc 28 (.loc 29 (.loc 30 (.loc 31 (.loc 32 (.loc 33 (.loc 34 .done)))))))))))))))))))))))))))))))))))) (.cond (.seq .leaf .leaf) .leaf))) .leaf))))) (.seq .leaf .leaf)))))
theorem kit_KeptEntries.eq (out0 : Sl) (l1 : Sl) (R : Value → Heap → Prop) (h : Heap) : kit_KeptEntries.body out0 l1 R h = evFn Try.prog Try.f14 kit_KeptEntries.ann [(.slice out0.a out0.n out0.c), (.slice l1.a l1.n l1.c)] R h := by kernel_rfl
theorem kit_KeptEntries.calls {out0 : Sl} {l1 : Sl} {R : Value → Heap → Prop} {h : Heap} (H : kit_KeptEntries.body out0 l1 R h) : HC Try.prog F.kit_KeptEntries #[(.slice out0.a out0.n out0.c), (.slice l1.a l1.n l1.c)] R h :=
  evFn_sound mixed Try.func14 (by kernel_rfl) (kit_KeptEntries.eq out0 l1 R h ▸ H)

/-! zugzwang/zugzwanglaw21.ForkCompares -/
def law21_ForkCompares.body (a0 : Sl) (b1 : Sl) (n2 : Int) (R : Value → Heap → Prop) (h : Heap) : Prop :=
  if (decide ((IntKind.i64.wrap (((a0.n : Int)) + ((b1.n : Int)))) > 200)) = true then
  callK Try.prog .bool F.law21_awake #[] (fun (v_1 : Bool) (h : Heap) =>
  R (.bool v_1) h) h
  else
  callK Try.prog .slice F.kit_LentEntries #[(.slice a0.a a0.n a0.c)] (fun (v_2 : Sl) (h : Heap) =>
  callK Try.prog .slice F.kit_LentEntries #[(.slice b1.a b1.n b1.c)] (fun (v_3 : Sl) (h : Heap) =>
  callK Try.prog (Kd.pair (.int .i64) (.int .i64)) F.fork_Compare #[(.slice v_2.a v_2.n v_2.c), (.slice v_3.a v_3.n v_3.c)] (fun (v_4 : Int × Int) (h : Heap) =>
  callK Try.prog (Kd.pair (.int .i64) (.int .i64)) F.ref21_Compare #[(.slice a0.a a0.n a0.c), (.slice b1.a b1.n b1.c)] (fun (v_5 : Int × Int) (h : Heap) =>
  if (v_4.1 == v_5.1) = true then
  if (v_4.2 == v_5.2) = true then
  callK Try.prog .bool F.fork_Rolled #[(.slice v_2.a v_2.n v_2.c), (.slice v_3.a v_3.n v_3.c)] (fun (v_6 : Bool) (h : Heap) =>
  callK Try.prog .bool F.ref21_Rolled #[(.slice a0.a a0.n a0.c), (.slice b1.a b1.n b1.c)] (fun (v_7 : Bool) (h : Heap) =>
  if (v_6 == v_7) = true then
  callK Try.prog (.int .i64) F.fork_Signer #[(.int .i64 n2)] (fun (v_8 : Int) (h : Heap) =>
  callK Try.prog (.int .i64) F.ref21_Signer #[(.int .i64 n2)] (fun (v_9 : Int) (h : Heap) =>
  if (v_8 == v_9) = true then
  callK Try.prog .bool F.kit_KeptEntries #[(.slice v_2.a v_2.n v_2.c), (.slice a0.a a0.n a0.c)] (fun (v_10 : Bool) (h : Heap) =>
  if v_10 = true then
  callK Try.prog .bool F.kit_KeptEntries #[(.slice v_3.a v_3.n v_3.c), (.slice b1.a b1.n b1.c)] (fun (v_11 : Bool) (h : Heap) =>
  if v_11 = true then
  callK Try.prog .bool F.law21_awake #[] (fun (v_12 : Bool) (h : Heap) =>
  R (.bool v_12) h) h
  else
  R (.bool false) h) h
  else
  R (.bool false) h) h
  else
  R (.bool false) h) h) h
  else
  R (.bool false) h) h) h
  else
  R (.bool false) h
  else
  R (.bool false) h) h) h) h) h
def law21_ForkCompares.ann : Ann := (.seq .leaf (.seq (.seq .leaf (.cond (.seq .leaf .leaf) .leaf)) (.seq .leaf (.seq .leaf (.seq .leaf (.seq .leaf .leaf))))))
theorem law21_ForkCompares.eq (a0 : Sl) (b1 : Sl) (n2 : Int) (R : Value → Heap → Prop) (h : Heap) : law21_ForkCompares.body a0 b1 n2 R h = evFn Try.prog Try.f3 law21_ForkCompares.ann [(.slice a0.a a0.n a0.c), (.slice b1.a b1.n b1.c), (.int .i64 n2)] R h := by kernel_rfl
theorem law21_ForkCompares.calls {a0 : Sl} {b1 : Sl} {n2 : Int} {R : Value → Heap → Prop} {h : Heap} (H : law21_ForkCompares.body a0 b1 n2 R h) : HC Try.prog F.law21_ForkCompares #[(.slice a0.a a0.n a0.c), (.slice b1.a b1.n b1.c), (.int .i64 n2)] R h :=
  evFn_sound mixed Try.func3 (by kernel_rfl) (law21_ForkCompares.eq a0 b1 n2 R h ▸ H)

/-! slices.Clone[[]zugzwang/api.Entry,zugzwang/api.Entry] -/
def slices_Clone_api_Entry_api_Entry.body (s0 : Sl) (R : Value → Heap → Prop) (h : Heap) : Prop :=
  if s0.a.isNone = true then
  R (.slice none 0 0) h
  else
  opK Try.prog .slice (Instr.buildSlice T.sl_api_Entry 0 #[]) (fun (v_1 : Sl) (h : Heap) =>
  opK Try.prog .slice (Builtin.append_ #[T.sl_api_Entry, T.sl_api_Entry] T.sl_api_Entry #[(.slice v_1.a v_1.n v_1.c), (.slice s0.a s0.n s0.c)]) (fun (v_2 : Sl) (h : Heap) =>
  R (.slice v_2.a v_2.n v_2.c) h) h) h
def slices_Clone_api_Entry_api_Entry.ann : Ann := (.seq .leaf (.seq (.seq .leaf (.cond (.seq .leaf .leaf) .leaf)) (.seq .leaf .leaf)))
theorem slices_Clone_api_Entry_api_Entry.eq (s0 : Sl) (R : Value → Heap → Prop) (h : Heap) : slices_Clone_api_Entry_api_Entry.body s0 R h = evFn Try.prog Try.f26 slices_Clone_api_Entry_api_Entry.ann [(.slice s0.a s0.n s0.c)] R h := by kernel_rfl
theorem slices_Clone_api_Entry_api_Entry.calls {s0 : Sl} {R : Value → Heap → Prop} {h : Heap} (H : slices_Clone_api_Entry_api_Entry.body s0 R h) : HC Try.prog F.slices_Clone_api_Entry_api_Entry #[(.slice s0.a s0.n s0.c)] R h :=
  evFn_sound mixed Try.func26 (by kernel_rfl) (slices_Clone_api_Entry_api_Entry.eq s0 R h ▸ H)

/-! (*zugzwang/fork.shelf).keep -/
def fork_shelf_keep.body (s0 : Option Addr) (l1 : Sl) (R : Value → Heap → Prop) (h : Heap) : Prop :=
  callK Try.prog .slice F.slices_Clone_api_Entry_api_Entry #[(.slice l1.a l1.n l1.c)] (fun (v_1 : Sl) (h : Heap) =>
  derefK s0 (fun (a_2 : Addr) =>
  fldK ((some a_2)) 0 (fun (a_3 : Addr) =>
  storeK h ((some a_3)) (.slice v_1.a v_1.n v_1.c) (fun (h : Heap) =>
  R (.tuple #[]) h)))) h
def fork_shelf_keep.ann : Ann := .leaf
theorem fork_shelf_keep.eq (s0 : Option Addr) (l1 : Sl) (R : Value → Heap → Prop) (h : Heap) : fork_shelf_keep.body s0 l1 R h = evFn Try.prog Try.f25 fork_shelf_keep.ann [(.pointer s0), (.slice l1.a l1.n l1.c)] R h := by kernel_rfl
theorem fork_shelf_keep.calls {s0 : Option Addr} {l1 : Sl} {R : Value → Heap → Prop} {h : Heap} (H : fork_shelf_keep.body s0 l1 R h) : HC Try.prog F.fork_shelf_keep #[(.pointer s0), (.slice l1.a l1.n l1.c)] R h :=
  evFn_sound mixed Try.func25 (by kernel_rfl) (fork_shelf_keep.eq s0 l1 R h ▸ H)

/-! zugzwang/fork.New -/
def fork_New.body (l0 : Sl) (R : Value → Heap → Prop) (h : Heap) : Prop :=
  buildK Try.prog (Instr.build T.fork_Book #[(1, (.bool true))]) (fun (v_1 : Array Value) =>
  newK h v_1 T.fork_Book (fun (v_2 : Option Addr) (h : Heap) =>
  derefK v_2 (fun (a_3 : Addr) =>
  fldK ((some a_3)) 0 (fun (a_4 : Addr) =>
  callK Try.prog .unit F.fork_shelf_keep #[(.pointer ((some a_4))), (.slice l0.a l0.n l0.c)] (fun (v_5 : Unit) (h : Heap) =>
  R (.pointer v_2) h) h))))
def fork_New.ann : Ann := (.seq .leaf (.seq .leaf (.seq .leaf (.seq .leaf .leaf))))
theorem fork_New.eq (l0 : Sl) (R : Value → Heap → Prop) (h : Heap) : fork_New.body l0 R h = evFn Try.prog Try.f15 fork_New.ann [(.slice l0.a l0.n l0.c)] R h := by kernel_rfl
theorem fork_New.calls {l0 : Sl} {R : Value → Heap → Prop} {h : Heap} (H : fork_New.body l0 R h) : HC Try.prog F.fork_New #[(.slice l0.a l0.n l0.c)] R h :=
  evFn_sound mixed Try.func15 (by kernel_rfl) (fork_New.eq l0 R h ▸ H)

/-! zugzwang/zugzwangkit.OverEntries -/
def kit_OverEntries.body (out0 : Sl) (R : Value → Heap → Prop) (h : Heap) : Prop :=
  sliceK out0 none (some (if (IntKind.i64.wrap (((out0.n : Int)) + 12)) < ((out0.c : Int)) then (IntKind.i64.wrap (((out0.n : Int)) + 12)) else ((out0.c : Int)))) none (sizeOfT Try.prog T.api_Entry) (fun (v_1 : Sl) =>
  loopW (fun X_3 (s_2 : Int) (h : Heap) =>
  if (decide (s_2 < ((v_1.n : Int)))) = true then
  callK Try.prog .agg F.kit_markEntry #[(.int .i64 2), (.int .i64 s_2)] (fun (v_4 : Array Value) (h : Heap) =>
  idxK v_1 s_2 (sizeOfT Try.prog T.api_Entry) (fun (a_5 : Addr) =>
  storeAggK (sizeOfT Try.prog T.api_Entry) h ((some a_5)) v_4 (fun (h : Heap) =>
  X_3 (IntKind.i64.wrap (s_2 + 1)) h))) h
  else
  R (.tuple #[]) h) 0 h)
def kit_OverEntries.ann : Ann := (.seq .leaf (.seq .leaf (.block (.loop [(3, (.int .i64))] (.seq (.seq .leaf (.cond .leaf .leaf)) (.seq (.block .leaf) .leaf))))))
theorem kit_OverEntries.eq (out0 : Sl) (R : Value → Heap → Prop) (h : Heap) : kit_OverEntries.body out0 R h = evFn Try.prog Try.f16 kit_OverEntries.ann [(.slice out0.a out0.n out0.c)] R h := by kernel_rfl
theorem kit_OverEntries.calls {out0 : Sl} {R : Value → Heap → Prop} {h : Heap} (H : kit_OverEntries.body out0 R h) : HC Try.prog F.kit_OverEntries #[(.slice out0.a out0.n out0.c)] R h :=
  evFn_sound mixed Try.func16 (by kernel_rfl) (kit_OverEntries.eq out0 R h ▸ H)

/-! (*zugzwang/fork.Book).See -/
def fork_Book_See.body (b0 : Option Addr) (l1 : Sl) (R : Value → Heap → Prop) (h : Heap) : Prop :=
  if b0.isNone = true then
  R (.tuple #[(.int .i64 0), (.int .i64 0)]) h
  else
  derefK b0 (fun (a_1 : Addr) =>
  fldK ((some a_1)) 1 (fun (a_2 : Addr) =>
  loadK .bool h ((some a_2)) (fun (v_3 : Bool) =>
  if (!v_3) = true then
  R (.tuple #[(.int .i64 0), (.int .i64 0)]) h
  else
  derefK b0 (fun (a_4 : Addr) =>
  fldK ((some a_4)) 0 (fun (a_5 : Addr) =>
  fldK ((some a_5)) 0 (fun (a_6 : Addr) =>
  loadK .slice h ((some a_6)) (fun (v_7 : Sl) =>
  callK Try.prog (Kd.pair (.int .i64) (.int .i64)) F.fork_Compare #[(.slice l1.a l1.n l1.c), (.slice v_7.a v_7.n v_7.c)] (fun (v_8 : Int × Int) (h : Heap) =>
  if (v_8.1 == 3) = true then
  derefK b0 (fun (a_9 : Addr) =>
  fldK ((some a_9)) 0 (fun (a_10 : Addr) =>
  callK Try.prog .unit F.fork_shelf_keep #[(.pointer ((some a_10))), (.slice l1.a l1.n l1.c)] (fun (v_11 : Unit) (h : Heap) =>
  R (.tuple #[(.int .i64 v_8.1), (.int .i64 v_8.2)]) h) h))
  else
  R (.tuple #[(.int .i64 v_8.1), (.int .i64 v_8.2)]) h) h)))))))
def fork_Book_See.ann : Ann := (.seq .leaf (.seq (.seq .leaf (.cond (.seq .leaf .leaf) .leaf)) (.seq (.seq .leaf (.seq .leaf (.cond .leaf .leaf))) (.seq .leaf .leaf))))
theorem fork_Book_See.eq (b0 : Option Addr) (l1 : Sl) (R : Value → Heap → Prop) (h : Heap) : fork_Book_See.body b0 l1 R h = evFn Try.prog Try.f17 fork_Book_See.ann [(.pointer b0), (.slice l1.a l1.n l1.c)] R h := by kernel_rfl
theorem fork_Book_See.calls {b0 : Option Addr} {l1 : Sl} {R : Value → Heap → Prop} {h : Heap} (H : fork_Book_See.body b0 l1 R h) : HC Try.prog F.fork_Book_See #[(.pointer b0), (.slice l1.a l1.n l1.c)] R h :=
  evFn_sound mixed Try.func17 (by kernel_rfl) (fork_Book_See.eq b0 l1 R h ▸ H)

/-! (*zugzwang/zugzwangref21.Book).See -/
def ref21_Book_See.body (b0 : Option Addr) (l1 : Sl) (R : Value → Heap → Prop) (h : Heap) : Prop :=
  derefK b0 (fun (a_1 : Addr) =>
  fldK ((some a_1)) 0 (fun (a_2 : Addr) =>
  loadK .slice h ((some a_2)) (fun (v_3 : Sl) =>
  callK Try.prog (Kd.pair (.int .i64) (.int .i64)) F.ref21_Compare #[(.slice l1.a l1.n l1.c), (.slice v_3.a v_3.n v_3.c)] (fun (v_4 : Int × Int) (h : Heap) =>
  if (v_4.1 == 3) = true then
  opK Try.prog .slice (Instr.buildSlice T.sl_api_Entry 0 #[]) (fun (v_5 : Sl) (h : Heap) =>
  opK Try.prog .slice (Builtin.append_ #[T.sl_api_Entry, T.sl_api_Entry] T.sl_api_Entry #[(.slice v_5.a v_5.n v_5.c), (.slice l1.a l1.n l1.c)]) (fun (v_6 : Sl) (h : Heap) =>
  derefK b0 (fun (a_7 : Addr) =>
  fldK ((some a_7)) 0 (fun (a_8 : Addr) =>
  storeK h ((some a_8)) (.slice v_6.a v_6.n v_6.c) (fun (h : Heap) =>
  R (.tuple #[(.int .i64 v_4.1), (.int .i64 v_4.2)]) h)))) h) h
  else
  R (.tuple #[(.int .i64 v_4.1), (.int .i64 v_4.2)]) h) h)))
def ref21_Book_See.ann : Ann := (.seq .leaf (.seq .leaf (.seq (.seq .leaf (.cond .leaf .leaf)) (.seq .leaf .leaf))))
theorem ref21_Book_See.eq (b0 : Option Addr) (l1 : Sl) (R : Value → Heap → Prop) (h : Heap) : ref21_Book_See.body b0 l1 R h = evFn Try.prog Try.f18 ref21_Book_See.ann [(.pointer b0), (.slice l1.a l1.n l1.c)] R h := by kernel_rfl
theorem ref21_Book_See.calls {b0 : Option Addr} {l1 : Sl} {R : Value → Heap → Prop} {h : Heap} (H : ref21_Book_See.body b0 l1 R h) : HC Try.prog F.ref21_Book_See #[(.pointer b0), (.slice l1.a l1.n l1.c)] R h :=
  evFn_sound mixed Try.func18 (by kernel_rfl) (ref21_Book_See.eq b0 l1 R h ▸ H)

/-! (*zugzwang/fork.Book).Row -/
def fork_Book_Row.body (b0 : Option Addr) (R : Value → Heap → Prop) (h : Heap) : Prop :=
  if b0.isNone = true then
  R (.slice none 0 0) h
  else
  derefK b0 (fun (a_1 : Addr) =>
  fldK ((some a_1)) 1 (fun (a_2 : Addr) =>
  loadK .bool h ((some a_2)) (fun (v_3 : Bool) =>
  if (!v_3) = true then
  R (.slice none 0 0) h
  else
  derefK b0 (fun (a_4 : Addr) =>
  fldK ((some a_4)) 0 (fun (a_5 : Addr) =>
  fldK ((some a_5)) 0 (fun (a_6 : Addr) =>
  loadK .slice h ((some a_6)) (fun (v_7 : Sl) =>
  callK Try.prog .slice F.slices_Clone_api_Entry_api_Entry #[(.slice v_7.a v_7.n v_7.c)] (fun (v_8 : Sl) (h : Heap) =>
  R (.slice v_8.a v_8.n v_8.c) h) h)))))))
def fork_Book_Row.ann : Ann := (.seq .leaf (.seq (.seq .leaf (.cond (.seq .leaf .leaf) .leaf)) (.seq .leaf .leaf)))
theorem fork_Book_Row.eq (b0 : Option Addr) (R : Value → Heap → Prop) (h : Heap) : fork_Book_Row.body b0 R h = evFn Try.prog Try.f19 fork_Book_Row.ann [(.pointer b0)] R h := by kernel_rfl
theorem fork_Book_Row.calls {b0 : Option Addr} {R : Value → Heap → Prop} {h : Heap} (H : fork_Book_Row.body b0 R h) : HC Try.prog F.fork_Book_Row #[(.pointer b0)] R h :=
  evFn_sound mixed Try.func19 (by kernel_rfl) (fork_Book_Row.eq b0 R h ▸ H)

/-! zugzwang/zugzwangkit.SameEntries -/
def kit_SameEntries.body (a0 : Sl) (b1 : Sl) (R : Value → Heap → Prop) (h : Heap) : Prop :=
  if (((a0.n : Int)) != ((b1.n : Int))) = true then
  R (.bool false) h
  else
  loopW (fun X_2 (s_1 : Int) (h : Heap) =>
  if (decide (s_1 < ((a0.n : Int)))) = true then
  idxK a0 s_1 (sizeOfT Try.prog T.api_Entry) (fun (a_3 : Addr) =>
  loadAggK (sizeOfT Try.prog T.api_Entry) h ((some a_3)) (fun (v_4 : Array Value) =>
  idxK b1 s_1 (sizeOfT Try.prog T.api_Entry) (fun (a_5 : Addr) =>
  loadAggK (sizeOfT Try.prog T.api_Entry) h ((some a_5)) (fun (v_6 : Array Value) =>
  eqK Try.prog (binSem .neq T.api_Entry (.tmp 20) (.tmp 24) (.agg v_4) (.agg v_6)) (fun (v_7 : Bool) =>
  if v_7 = true then
  R (.bool false) h
  else
  X_2 (IntKind.i64.wrap (s_1 + 1)) h)))))
  else
  R (.bool true) h) 0 h
def kit_SameEntries.ann : Ann := (.seq .leaf (.seq (.seq .leaf (.cond (.seq .leaf .leaf) .leaf)) (.seq (.seq .leaf (.block (.loop [(5, (.int .i64))] (.seq (.seq .leaf (.cond .leaf .leaf)) (.seq (.block (.seq .leaf (.cond (.seq .leaf .leaf) .leaf))) .leaf))))) (.seq .leaf .leaf))))
theorem kit_SameEntries.eq (a0 : Sl) (b1 : Sl) (R : Value → Heap → Prop) (h : Heap) : kit_SameEntries.body a0 b1 R h = evFn Try.prog Try.f20 kit_SameEntries.ann [(.slice a0.a a0.n a0.c), (.slice b1.a b1.n b1.c)] R h := by kernel_rfl
theorem kit_SameEntries.calls {a0 : Sl} {b1 : Sl} {R : Value → Heap → Prop} {h : Heap} (H : kit_SameEntries.body a0 b1 R h) : HC Try.prog F.kit_SameEntries #[(.slice a0.a a0.n a0.c), (.slice b1.a b1.n b1.c)] R h :=
  evFn_sound mixed Try.func20 (by kernel_rfl) (kit_SameEntries.eq a0 b1 R h ▸ H)

/-! zugzwang/zugzwanglaw21.ForkSees -/
def law21_ForkSees.body (l0 : Sl) (rows1 : Sl) (R : Value → Heap → Prop) (h : Heap) : Prop :=
  joinW (fun (s_1 : Int) (h : Heap) =>
  if (decide (s_1 > 200)) = true then
  callK Try.prog .bool F.law21_awake #[] (fun (v_2 : Bool) (h : Heap) =>
  R (.bool v_2) h) h
  else
  callK Try.prog .slice F.kit_LentEntries #[(.slice l0.a l0.n l0.c)] (fun (v_3 : Sl) (h : Heap) =>
  callK Try.prog .ptr F.fork_New #[(.slice v_3.a v_3.n v_3.c)] (fun (v_4 : Option Addr) (h : Heap) =>
  buildK Try.prog (Instr.build T.zugzwangref21_Book #[(0, (.slice l0.a l0.n l0.c))]) (fun (v_5 : Array Value) =>
  newK h v_5 T.zugzwangref21_Book (fun (v_6 : Option Addr) (h : Heap) =>
  callK Try.prog .unit F.kit_OverEntries #[(.slice v_3.a v_3.n v_3.c)] (fun (v_7 : Unit) (h : Heap) =>
  loopW (fun X_9 (s_8 : Int) (h : Heap) =>
  if (decide (s_8 < ((rows1.n : Int)))) = true then
  idxK rows1 s_8 (sizeOfT Try.prog T.sl_api_Entry) (fun (a_10 : Addr) =>
  loadK .slice h ((some a_10)) (fun (v_11 : Sl) =>
  callK Try.prog .slice F.kit_LentEntries #[(.slice v_11.a v_11.n v_11.c)] (fun (v_12 : Sl) (h : Heap) =>
  callK Try.prog (Kd.pair (.int .i64) (.int .i64)) F.fork_Book_See #[(.pointer v_4), (.slice v_12.a v_12.n v_12.c)] (fun (v_13 : Int × Int) (h : Heap) =>
  idxK rows1 s_8 (sizeOfT Try.prog T.sl_api_Entry) (fun (a_14 : Addr) =>
  loadK .slice h ((some a_14)) (fun (v_15 : Sl) =>
  callK Try.prog (Kd.pair (.int .i64) (.int .i64)) F.ref21_Book_See #[(.pointer v_6), (.slice v_15.a v_15.n v_15.c)] (fun (v_16 : Int × Int) (h : Heap) =>
  if (v_13.1 != v_16.1) = true then
  R (.bool false) h
  else
  if (v_13.2 != v_16.2) = true then
  R (.bool false) h
  else
  idxK rows1 s_8 (sizeOfT Try.prog T.sl_api_Entry) (fun (a_17 : Addr) =>
  loadK .slice h ((some a_17)) (fun (v_18 : Sl) =>
  callK Try.prog .bool F.kit_KeptEntries #[(.slice v_12.a v_12.n v_12.c), (.slice v_18.a v_18.n v_18.c)] (fun (v_19 : Bool) (h : Heap) =>
  if (!v_19) = true then
  R (.bool false) h
  else
  callK Try.prog .unit F.kit_OverEntries #[(.slice v_12.a v_12.n v_12.c)] (fun (v_20 : Unit) (h : Heap) =>
  callK Try.prog .slice F.fork_Book_Row #[(.pointer v_4)] (fun (v_21 : Sl) (h : Heap) =>
  callK Try.prog .unit F.kit_OverEntries #[(.slice v_21.a v_21.n v_21.c)] (fun (v_22 : Unit) (h : Heap) =>
  derefK v_6 (fun (a_23 : Addr) =>
  fldK ((some a_23)) 0 (fun (a_24 : Addr) =>
  loadK .slice h ((some a_24)) (fun (v_25 : Sl) =>
  callK Try.prog .slice F.fork_Book_Row #[(.pointer v_4)] (fun (v_26 : Sl) (h : Heap) =>
  stillK .slice h ((some a_24)) v_25 ∧
  callK Try.prog .bool F.kit_SameEntries #[(.slice v_26.a v_26.n v_26.c), (.slice v_25.a v_25.n v_25.c)] (fun (v_27 : Bool) (h : Heap) =>
  if (!v_27) = true then
  R (.bool false) h
  else
  X_9 (IntKind.i64.wrap (s_8 + 1)) h) h) h)))) h) h) h) h))) h))) h) h))
  else
  callK Try.prog .bool F.law21_awake #[] (fun (v_28 : Bool) (h : Heap) =>
  R (.bool v_28) h) h) 0 h) h))) h) h)
  (fun J_29 =>
  loopW (fun X_31 (s_30 : Int × Int) (h : Heap) =>
  if (decide (s_30.2 < ((rows1.n : Int)))) = true then
  if (decide (s_30.1 ≤ 200)) = true then
  idxK rows1 s_30.2 (sizeOfT Try.prog T.sl_api_Entry) (fun (a_32 : Addr) =>
  loadK .slice h ((some a_32)) (fun (v_33 : Sl) =>
  X_31 (IntKind.i64.wrap (s_30.1 + ((v_33.n : Int))), IntKind.i64.wrap (s_30.2 + 1)) h))
  else
  J_29 s_30.1 h
  else
  J_29 s_30.1 h) (IntKind.i64.wrap (((l0.n : Int)) + ((rows1.n : Int))), 0) h)
def law21_ForkSees.ann : Ann := (.seq .leaf (.seq .leaf (.join [(5, (.int .i64))] (.seq .leaf (.block (.loop [(5, (.int .i64)), (6, (.int .i64))] (.seq (.seq .leaf (.cond .leaf .leaf)) (.seq (.block .leaf) .leaf))))) (.seq (.seq .leaf (.cond (.seq .leaf .leaf) .leaf)) (.seq .leaf (.seq .leaf (.seq .leaf (.seq (.seq .leaf (.block (.loop [(10, (.int .i64))] (.seq (.seq .leaf (.cond .leaf .leaf)) (.seq (.block (.seq .leaf (.seq .leaf (.seq .leaf (.seq (.seq .leaf (.cond (.seq .leaf .leaf) .leaf)) (.seq .leaf (.seq .leaf (.seq (.any (.loc 0 (.loc 2 (.loc 3 (.loc 4 (.st 5 192 (.last 1 (.last 6 (.loc 7 .done))))))))) (.cond (.seq .leaf .leaf) .leaf))))))))) .leaf))))) (.seq .leaf .leaf)))))))))
theorem law21_ForkSees.eq (l0 : Sl) (rows1 : Sl) (R : Value → Heap → Prop) (h : Heap) : law21_ForkSees.body l0 rows1 R h = evFn Try.prog Try.f4 law21_ForkSees.ann [(.slice l0.a l0.n l0.c), (.slice rows1.a rows1.n rows1.c)] R h := by kernel_rfl
theorem law21_ForkSees.calls {l0 : Sl} {rows1 : Sl} {R : Value → Heap → Prop} {h : Heap} (H : law21_ForkSees.body l0 rows1 R h) : HC Try.prog F.law21_ForkSees #[(.slice l0.a l0.n l0.c), (.slice rows1.a rows1.n rows1.c)] R h :=
  evFn_sound mixed Try.func4 (by kernel_rfl) (law21_ForkSees.eq l0 rows1 R h ▸ H)

/-! zugzwang/zugzwanglaw21.ForkBook -/
def law21_ForkBook.body (l0 : Sl) (rows1 : Sl) (R : Value → Heap → Prop) (h : Heap) : Prop :=
  callK Try.prog .bool F.law21_awake #[] (fun (v_1 : Bool) (h : Heap) =>
  if (!v_1) = true then
  R (.bool false) h
  else
  joinW (fun (s_2 : Int) (h : Heap) =>
  if (decide (s_2 > 200)) = true then
  R (.bool true) h
  else
  callK Try.prog .ptr F.fork_New #[(.slice l0.a l0.n l0.c)] (fun (v_3 : Option Addr) (h : Heap) =>
  callK Try.prog .slice F.fork_Book_Row #[(.pointer v_3)] (fun (v_4 : Sl) (h : Heap) =>
  callK Try.prog .bool F.kit_SameEntries #[(.slice v_4.a v_4.n v_4.c), (.slice l0.a l0.n l0.c)] (fun (v_5 : Bool) (h : Heap) =>
  if (!v_5) = true then
  R (.bool false) h
  else
  loopW (fun X_7 (s_6 : Sl × Int) (h : Heap) =>
  if (decide (s_6.2 < ((rows1.n : Int)))) = true then
  idxK rows1 s_6.2 (sizeOfT Try.prog T.sl_api_Entry) (fun (a_8 : Addr) =>
  loadK .slice h ((some a_8)) (fun (v_9 : Sl) =>
  callK Try.prog (Kd.pair (.int .i64) (.int .i64)) F.fork_Book_See #[(.pointer v_3), (.slice v_9.a v_9.n v_9.c)] (fun (v_10 : Int × Int) (h : Heap) =>
  callK Try.prog .slice F.fork_Book_Row #[(.pointer v_3)] (fun (v_11 : Sl) (h : Heap) =>
  idxK rows1 s_6.2 (sizeOfT Try.prog T.sl_api_Entry) (fun (a_12 : Addr) =>
  loadK .slice h ((some a_12)) (fun (v_13 : Sl) =>
  callK Try.prog (Kd.pair (.int .i64) (.int .i64)) F.fork_Book_See #[(.pointer v_3), (.slice v_13.a v_13.n v_13.c)] (fun (v_14 : Int × Int) (h : Heap) =>
  if (decide (((v_11.n : Int)) < ((s_6.1.n : Int)))) = true then
  R (.bool false) h
  else
  sliceK v_11 none (some ((s_6.1.n : Int))) none (sizeOfT Try.prog T.api_Entry) (fun (v_15 : Sl) =>
  callK Try.prog .bool F.kit_SameEntries #[(.slice v_15.a v_15.n v_15.c), (.slice s_6.1.a s_6.1.n s_6.1.c)] (fun (v_16 : Bool) (h : Heap) =>
  if (!v_16) = true then
  R (.bool false) h
  else
  if (!((v_10.1 == 3) == (decide (((v_11.n : Int)) > ((s_6.1.n : Int)))))) = true then
  R (.bool false) h
  else
  if (v_10.1 == 3) = true then
  idxK rows1 s_6.2 (sizeOfT Try.prog T.sl_api_Entry) (fun (a_17 : Addr) =>
  loadK .slice h ((some a_17)) (fun (v_18 : Sl) =>
  callK Try.prog .bool F.kit_SameEntries #[(.slice v_11.a v_11.n v_11.c), (.slice v_18.a v_18.n v_18.c)] (fun (v_19 : Bool) (h : Heap) =>
  if (!v_19) = true then
  R (.bool false) h
  else
  if (v_14.1 == 3) = true then
  R (.bool false) h
  else
  X_7 (v_11, IntKind.i64.wrap (s_6.2 + 1)) h) h))
  else
  if (v_14.1 == 3) = true then
  R (.bool false) h
  else
  X_7 (v_11, IntKind.i64.wrap (s_6.2 + 1)) h) h)) h))) h) h))
  else
  R (.bool true) h) (v_4, 0) h) h) h) h)
  (fun J_20 =>
  loopW (fun X_22 (s_21 : Int × Int) (h : Heap) =>
  if (decide (s_21.2 < ((rows1.n : Int)))) = true then
  if (decide (s_21.1 ≤ 200)) = true then
  idxK rows1 s_21.2 (sizeOfT Try.prog T.sl_api_Entry) (fun (a_23 : Addr) =>
  loadK .slice h ((some a_23)) (fun (v_24 : Sl) =>
  X_22 (IntKind.i64.wrap (s_21.1 + ((v_24.n : Int))), IntKind.i64.wrap (s_21.2 + 1)) h))
  else
  J_20 s_21.1 h
  else
  J_20 s_21.1 h) (IntKind.i64.wrap (((l0.n : Int)) + ((rows1.n : Int))), 0) h)) h
def law21_ForkBook.ann : Ann := (.seq .leaf (.seq (.seq .leaf (.cond (.seq .leaf .leaf) .leaf)) (.seq .leaf (.join [(5, (.int .i64))] (.seq .leaf (.block (.loop [(5, (.int .i64)), (6, (.int .i64))] (.seq (.seq .leaf (.cond .leaf .leaf)) (.seq (.block .leaf) .leaf))))) (.seq (.seq .leaf (.cond (.seq .leaf .leaf) .leaf)) (.seq .leaf (.seq .leaf (.seq (.seq .leaf (.cond (.seq .leaf .leaf) .leaf)) (.seq (.seq .leaf (.block (.loop [(8, .slice), (9, (.int .i64))] (.seq (.seq .leaf (.cond .leaf .leaf)) (.seq (.block (.seq .leaf (.seq .leaf (.seq .leaf (.seq (.seq .leaf (.cond (.seq .leaf .leaf) .leaf)) .leaf))))) .leaf))))) (.seq .leaf .leaf))))))))))
theorem law21_ForkBook.eq (l0 : Sl) (rows1 : Sl) (R : Value → Heap → Prop) (h : Heap) : law21_ForkBook.body l0 rows1 R h = evFn Try.prog Try.f5 law21_ForkBook.ann [(.slice l0.a l0.n l0.c), (.slice rows1.a rows1.n rows1.c)] R h := by kernel_rfl
theorem law21_ForkBook.calls {l0 : Sl} {rows1 : Sl} {R : Value → Heap → Prop} {h : Heap} (H : law21_ForkBook.body l0 rows1 R h) : HC Try.prog F.law21_ForkBook #[(.slice l0.a l0.n l0.c), (.slice rows1.a rows1.n rows1.c)] R h :=
  evFn_sound mixed Try.func5 (by kernel_rfl) (law21_ForkBook.eq l0 rows1 R h ▸ H)

end Go.Proofs.Ytgggpnjjkcfckaa
