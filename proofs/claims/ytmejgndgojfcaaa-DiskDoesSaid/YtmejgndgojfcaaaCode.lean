import Derived.Test.YtmejgndgojfcaaaSig
set_option linter.unusedVariables false
set_option maxRecDepth 100000
namespace Go.Proofs.Ytmejgndgojfcaaa
open Go.Ev
/-! (*zugzwang/disk.file).fits -/
def disk_file_fits.body (f0 : Option Addr) (rows1 : Sl) (R : Value → Heap → Prop) (h : Heap) : Prop :=
  derefK f0 (fun (a_1 : Addr) =>
  fldK ((some a_1)) 0 (fun (a_2 : Addr) =>
  loadK .slice h ((some a_2)) (fun (v_3 : Sl) =>
  loopW (fun X_5 (s_4 : Int × Int) (h : Heap) =>
  if (decide (s_4.2 < ((rows1.n : Int)))) = true then
  idxK rows1 s_4.2 (sizeOfT Try.prog T.sl_uint8) (fun (a_6 : Addr) =>
  loadK .slice h ((some a_6)) (fun (v_7 : Sl) =>
  X_5 (IntKind.i64.wrap (s_4.1 + ((v_7.n : Int))), IntKind.i64.wrap (s_4.2 + 1)) h))
  else
  R (.bool (decide (s_4.1 ≤ 1048576))) h) ((v_3.n : Int), 0) h)))
def disk_file_fits.ann : Ann := (.seq .leaf (.seq .leaf (.seq (.seq .leaf (.block (.loop [(5, (.int .i64)), (15, (.int .i64))] (.seq .leaf (.seq (.cond .leaf .leaf) (.seq (.block (.seq .leaf .leaf)) .leaf)))))) (.seq .leaf .leaf))))
theorem disk_file_fits.eq (f0 : Option Addr) (rows1 : Sl) (R : Value → Heap → Prop) (h : Heap) : disk_file_fits.body f0 rows1 R h = evFn Try.prog Try.f29 disk_file_fits.ann [(.pointer f0), (.slice rows1.a rows1.n rows1.c)] R h := by kernel_rfl
theorem disk_file_fits.calls {f0 : Option Addr} {rows1 : Sl} {R : Value → Heap → Prop} {h : Heap} (H : disk_file_fits.body f0 rows1 R h) : HC Try.prog F.disk_file_fits #[(.pointer f0), (.slice rows1.a rows1.n rows1.c)] R h :=
  evFn_sound mixed Try.func29 (by kernel_rfl) (disk_file_fits.eq f0 rows1 R h ▸ H)

/-! (*zugzwang/disk.file).put -/
def disk_file_put.body (f0 : Option Addr) (rows1 : Sl) (R : Value → Heap → Prop) (h : Heap) : Prop :=
  loopW (fun X_2 (s_1 : Int) (h : Heap) =>
  if (decide (s_1 < ((rows1.n : Int)))) = true then
  idxK rows1 s_1 (sizeOfT Try.prog T.sl_uint8) (fun (a_3 : Addr) =>
  loadK .slice h ((some a_3)) (fun (v_4 : Sl) =>
  derefK f0 (fun (a_5 : Addr) =>
  fldK ((some a_5)) 0 (fun (a_6 : Addr) =>
  loadK .slice h ((some a_6)) (fun (v_7 : Sl) =>
  opK Try.prog .slice (Builtin.append_ #[T.sl_uint8, T.sl_uint8] T.sl_uint8 #[(.slice v_7.a v_7.n v_7.c), (.slice v_4.a v_4.n v_4.c)]) (fun (v_8 : Sl) (h : Heap) =>
  derefK f0 (fun (a_9 : Addr) =>
  fldK ((some a_9)) 0 (fun (a_10 : Addr) =>
  storeK h ((some a_10)) (.slice v_8.a v_8.n v_8.c) (fun (h : Heap) =>
  X_2 (IntKind.i64.wrap (s_1 + 1)) h)))) h)))))
  else
  R (.tuple #[]) h) 0 h
def disk_file_put.ann : Ann := (.seq .leaf (.block (.loop [(8, (.int .i64))] (.seq .leaf (.seq (.cond .leaf .leaf) (.seq (.block (.seq .leaf .leaf)) .leaf))))))
theorem disk_file_put.eq (f0 : Option Addr) (rows1 : Sl) (R : Value → Heap → Prop) (h : Heap) : disk_file_put.body f0 rows1 R h = evFn Try.prog Try.f30 disk_file_put.ann [(.pointer f0), (.slice rows1.a rows1.n rows1.c)] R h := by kernel_rfl
theorem disk_file_put.calls {f0 : Option Addr} {rows1 : Sl} {R : Value → Heap → Prop} {h : Heap} (H : disk_file_put.body f0 rows1 R h) : HC Try.prog F.disk_file_put #[(.pointer f0), (.slice rows1.a rows1.n rows1.c)] R h :=
  evFn_sound mixed Try.func30 (by kernel_rfl) (disk_file_put.eq f0 rows1 R h ▸ H)

/-! (*zugzwang/disk.file).leave -/
def disk_file_leave.body (f0 : Option Addr) (n1 : Int) (R : Value → Heap → Prop) (h : Heap) : Prop :=
  derefK f0 (fun (a_1 : Addr) =>
  fldK ((some a_1)) 0 (fun (a_2 : Addr) =>
  loadK .slice h ((some a_2)) (fun (v_3 : Sl) =>
  sliceK v_3 none (some n1) (some n1) (sizeOfT Try.prog T.uint8) (fun (v_4 : Sl) =>
  derefK f0 (fun (a_5 : Addr) =>
  fldK ((some a_5)) 0 (fun (a_6 : Addr) =>
  storeK h ((some a_6)) (.slice v_4.a v_4.n v_4.c) (fun (h : Heap) =>
  derefK f0 (fun (a_7 : Addr) =>
  fldK ((some a_7)) 1 (fun (a_8 : Addr) =>
  storeK h ((some a_8)) (.int .i64 n1) (fun (h : Heap) =>
  R (.tuple #[]) h))))))))))
def disk_file_leave.ann : Ann := .leaf
theorem disk_file_leave.eq (f0 : Option Addr) (n1 : Int) (R : Value → Heap → Prop) (h : Heap) : disk_file_leave.body f0 n1 R h = evFn Try.prog Try.f31 disk_file_leave.ann [(.pointer f0), (.int .i64 n1)] R h := by kernel_rfl
theorem disk_file_leave.calls {f0 : Option Addr} {n1 : Int} {R : Value → Heap → Prop} {h : Heap} (H : disk_file_leave.body f0 n1 R h) : HC Try.prog F.disk_file_leave #[(.pointer f0), (.int .i64 n1)] R h :=
  evFn_sound mixed Try.func31 (by kernel_rfl) (disk_file_leave.eq f0 n1 R h ▸ H)

/-! zugzwang/disk.New -/
def disk_New.body (rows0 : Sl) (R : Value → Heap → Prop) (h : Heap) : Prop :=
  buildK Try.prog (Instr.build T.disk_Disk #[(1, (.bool true))]) (fun (v_1 : Array Value) =>
  newK h v_1 T.disk_Disk (fun (v_2 : Option Addr) (h : Heap) =>
  derefK v_2 (fun (a_3 : Addr) =>
  fldK ((some a_3)) 0 (fun (a_4 : Addr) =>
  callK Try.prog .bool F.disk_file_fits #[(.pointer ((some a_4))), (.slice rows0.a rows0.n rows0.c)] (fun (v_5 : Bool) (h : Heap) =>
  if (!v_5) = true then
  R (.tuple #[(.pointer none), (.int .i64 3)]) h
  else
  derefK v_2 (fun (a_6 : Addr) =>
  fldK ((some a_6)) 0 (fun (a_7 : Addr) =>
  callK Try.prog .unit F.disk_file_put #[(.pointer ((some a_7))), (.slice rows0.a rows0.n rows0.c)] (fun (v_8 : Unit) (h : Heap) =>
  derefK v_2 (fun (a_9 : Addr) =>
  fldK ((some a_9)) 0 (fun (a_10 : Addr) =>
  derefK v_2 (fun (a_11 : Addr) =>
  fldK ((some a_11)) 0 (fun (a_12 : Addr) =>
  fldK ((some a_12)) 0 (fun (a_13 : Addr) =>
  loadK .slice h ((some a_13)) (fun (v_14 : Sl) =>
  callK Try.prog .unit F.disk_file_leave #[(.pointer ((some a_10))), (.int .i64 ((v_14.n : Int)))] (fun (v_15 : Unit) (h : Heap) =>
  R (.tuple #[(.pointer v_2), (.int .i64 0)]) h) h))))))) h))) h))))
def disk_New.ann : Ann := (.seq .leaf (.seq .leaf (.seq (.seq .leaf (.cond (.seq .leaf .leaf) .leaf)) (.seq .leaf (.seq (.any (.loc 0 (.loc 1 (.loc 2 (.loc 3 (.loc 4 (.loc 5 (.loc 6 (.st 7 768 (.loc 8 (.last 9 .done))))))))))) (.seq .leaf .leaf))))))
theorem disk_New.eq (rows0 : Sl) (R : Value → Heap → Prop) (h : Heap) : disk_New.body rows0 R h = evFn Try.prog Try.f9 disk_New.ann [(.slice rows0.a rows0.n rows0.c)] R h := by kernel_rfl
theorem disk_New.calls {rows0 : Sl} {R : Value → Heap → Prop} {h : Heap} (H : disk_New.body rows0 R h) : HC Try.prog F.disk_New #[(.slice rows0.a rows0.n rows0.c)] R h :=
  evFn_sound mixed Try.func9 (by kernel_rfl) (disk_New.eq rows0 R h ▸ H)

/-! (*zugzwang/disk.Disk).there -/
def disk_Disk_there.body (d0 : Option Addr) (R : Value → Heap → Prop) (h : Heap) : Prop :=
  if (!d0.isNone) = true then
  derefK d0 (fun (a_1 : Addr) =>
  fldK ((some a_1)) 2 (fun (a_2 : Addr) =>
  loadK .bool h ((some a_2)) (fun (v_3 : Bool) =>
  R (.bool v_3) h)))
  else
  R (.bool false) h
def disk_Disk_there.ann : Ann := (.seq .leaf (.seq .leaf .leaf))
theorem disk_Disk_there.eq (d0 : Option Addr) (R : Value → Heap → Prop) (h : Heap) : disk_Disk_there.body d0 R h = evFn Try.prog Try.f32 disk_Disk_there.ann [(.pointer d0)] R h := by kernel_rfl
theorem disk_Disk_there.calls {d0 : Option Addr} {R : Value → Heap → Prop} {h : Heap} (H : disk_Disk_there.body d0 R h) : HC Try.prog F.disk_Disk_there #[(.pointer d0)] R h :=
  evFn_sound mixed Try.func32 (by kernel_rfl) (disk_Disk_there.eq d0 R h ▸ H)

/-! slices.Clone[[]byte,byte] -/
def slices_Clone_byte_byte.body (s0 : Sl) (R : Value → Heap → Prop) (h : Heap) : Prop :=
  if s0.a.isNone = true then
  R (.slice none 0 0) h
  else
  newSlK h 0 #[] T.uint8 (fun (v_1 : Sl) (h : Heap) =>
  opK Try.prog .slice (Builtin.append_ #[T.sl_uint8, T.sl_uint8] T.sl_uint8 #[(.slice v_1.a v_1.n v_1.c), (.slice s0.a s0.n s0.c)]) (fun (v_2 : Sl) (h : Heap) =>
  R (.slice v_2.a v_2.n v_2.c) h) h)
def slices_Clone_byte_byte.ann : Ann := (.seq .leaf (.seq (.seq .leaf (.cond (.seq .leaf .leaf) .leaf)) (.seq .leaf .leaf)))
theorem slices_Clone_byte_byte.eq (s0 : Sl) (R : Value → Heap → Prop) (h : Heap) : slices_Clone_byte_byte.body s0 R h = evFn Try.prog Try.f33 slices_Clone_byte_byte.ann [(.slice s0.a s0.n s0.c)] R h := by kernel_rfl
theorem slices_Clone_byte_byte.calls {s0 : Sl} {R : Value → Heap → Prop} {h : Heap} (H : slices_Clone_byte_byte.body s0 R h) : HC Try.prog F.slices_Clone_byte_byte #[(.slice s0.a s0.n s0.c)] R h :=
  evFn_sound mixed Try.func33 (by kernel_rfl) (slices_Clone_byte_byte.eq s0 R h ▸ H)

/-! (*zugzwang/disk.Disk).Bytes -/
def disk_Disk_Bytes.body (d0 : Option Addr) (R : Value → Heap → Prop) (h : Heap) : Prop :=
  callK Try.prog .bool F.disk_Disk_there #[(.pointer d0)] (fun (v_1 : Bool) (h : Heap) =>
  if (!v_1) = true then
  R (.slice none 0 0) h
  else
  derefK d0 (fun (a_2 : Addr) =>
  fldK ((some a_2)) 0 (fun (a_3 : Addr) =>
  fldK ((some a_3)) 0 (fun (a_4 : Addr) =>
  loadK .slice h ((some a_4)) (fun (v_5 : Sl) =>
  callK Try.prog .slice F.slices_Clone_byte_byte #[(.slice v_5.a v_5.n v_5.c)] (fun (v_6 : Sl) (h : Heap) =>
  R (.slice v_6.a v_6.n v_6.c) h) h))))) h
def disk_Disk_Bytes.ann : Ann := (.seq .leaf (.seq (.seq .leaf (.cond (.seq .leaf .leaf) .leaf)) (.seq .leaf .leaf)))
theorem disk_Disk_Bytes.eq (d0 : Option Addr) (R : Value → Heap → Prop) (h : Heap) : disk_Disk_Bytes.body d0 R h = evFn Try.prog Try.f10 disk_Disk_Bytes.ann [(.pointer d0)] R h := by kernel_rfl
theorem disk_Disk_Bytes.calls {d0 : Option Addr} {R : Value → Heap → Prop} {h : Heap} (H : disk_Disk_Bytes.body d0 R h) : HC Try.prog F.disk_Disk_Bytes #[(.pointer d0)] R h :=
  evFn_sound mixed Try.func10 (by kernel_rfl) (disk_Disk_Bytes.eq d0 R h ▸ H)

/-! (*zugzwang/disk.Disk).Synced -/
def disk_Disk_Synced.body (d0 : Option Addr) (R : Value → Heap → Prop) (h : Heap) : Prop :=
  callK Try.prog .bool F.disk_Disk_there #[(.pointer d0)] (fun (v_1 : Bool) (h : Heap) =>
  if (!v_1) = true then
  R (.int .i64 0) h
  else
  derefK d0 (fun (a_2 : Addr) =>
  fldK ((some a_2)) 0 (fun (a_3 : Addr) =>
  fldK ((some a_3)) 1 (fun (a_4 : Addr) =>
  loadK (.int .i64) h ((some a_4)) (fun (v_5 : Int) =>
  R (.int .i64 v_5) h))))) h
def disk_Disk_Synced.ann : Ann := (.seq .leaf (.seq (.seq .leaf (.cond (.seq .leaf .leaf) .leaf)) (.seq .leaf .leaf)))
theorem disk_Disk_Synced.eq (d0 : Option Addr) (R : Value → Heap → Prop) (h : Heap) : disk_Disk_Synced.body d0 R h = evFn Try.prog Try.f11 disk_Disk_Synced.ann [(.pointer d0)] R h := by kernel_rfl
theorem disk_Disk_Synced.calls {d0 : Option Addr} {R : Value → Heap → Prop} {h : Heap} (H : disk_Disk_Synced.body d0 R h) : HC Try.prog F.disk_Disk_Synced #[(.pointer d0)] R h :=
  evFn_sound mixed Try.func11 (by kernel_rfl) (disk_Disk_Synced.eq d0 R h ▸ H)

/-! zugzwang/zugzwangkit.SameBytes -/
def kit_SameBytes.body (a0 : Sl) (b1 : Sl) (R : Value → Heap → Prop) (h : Heap) : Prop :=
  if (((a0.n : Int)) != ((b1.n : Int))) = true then
  R (.bool false) h
  else
  loopW (fun X_2 (s_1 : Int) (h : Heap) =>
  if (decide (s_1 < ((a0.n : Int)))) = true then
  idxK a0 s_1 (sizeOfT Try.prog T.uint8) (fun (a_3 : Addr) =>
  loadK (.int .u8) h ((some a_3)) (fun (v_4 : Int) =>
  idxK b1 s_1 (sizeOfT Try.prog T.uint8) (fun (a_5 : Addr) =>
  loadK (.int .u8) h ((some a_5)) (fun (v_6 : Int) =>
  if (v_4 != v_6) = true then
  R (.bool false) h
  else
  X_2 (IntKind.i64.wrap (s_1 + 1)) h))))
  else
  R (.bool true) h) 0 h
def kit_SameBytes.ann : Ann := (.seq .leaf (.seq (.seq .leaf (.cond (.seq .leaf .leaf) .leaf)) (.seq (.seq .leaf (.block (.loop [(5, (.int .i64))] (.seq (.seq .leaf (.cond .leaf .leaf)) (.seq (.block (.seq .leaf (.cond (.seq .leaf .leaf) .leaf))) .leaf))))) (.seq .leaf .leaf))))
theorem kit_SameBytes.eq (a0 : Sl) (b1 : Sl) (R : Value → Heap → Prop) (h : Heap) : kit_SameBytes.body a0 b1 R h = evFn Try.prog Try.f13 kit_SameBytes.ann [(.slice a0.a a0.n a0.c), (.slice b1.a b1.n b1.c)] R h := by kernel_rfl
theorem kit_SameBytes.calls {a0 : Sl} {b1 : Sl} {R : Value → Heap → Prop} {h : Heap} (H : kit_SameBytes.body a0 b1 R h) : HC Try.prog F.kit_SameBytes #[(.slice a0.a a0.n a0.c), (.slice b1.a b1.n b1.c)] R h :=
  evFn_sound mixed Try.func13 (by kernel_rfl) (kit_SameBytes.eq a0 b1 R h ▸ H)

/-! (*zugzwang/disk.Disk).Fall -/
def disk_Disk_Fall.body (d0 : Option Addr) (keep1 : Int) (R : Value → Heap → Prop) (h : Heap) : Prop :=
  callK Try.prog .bool F.disk_Disk_there #[(.pointer d0)] (fun (v_1 : Bool) (h : Heap) =>
  if (!v_1) = true then
  R (.int .i64 1) h
  else
  derefK d0 (fun (a_2 : Addr) =>
  fldK ((some a_2)) 0 (fun (a_3 : Addr) =>
  derefK d0 (fun (a_4 : Addr) =>
  fldK ((some a_4)) 0 (fun (a_5 : Addr) =>
  fldK ((some a_5)) 1 (fun (a_6 : Addr) =>
  derefK d0 (fun (a_7 : Addr) =>
  fldK ((some a_7)) 0 (fun (a_8 : Addr) =>
  fldK ((some a_8)) 0 (fun (a_9 : Addr) =>
  derefK d0 (fun (a_10 : Addr) =>
  fldK ((some a_10)) 0 (fun (a_11 : Addr) =>
  fldK ((some a_11)) 1 (fun (a_12 : Addr) =>
  loadK (.int .i64) h ((some a_6)) (fun (v_13 : Int) =>
  loadK .slice h ((some a_9)) (fun (v_14 : Sl) =>
  loadK (.int .i64) h ((some a_12)) (fun (v_15 : Int) =>
  callK Try.prog .unit F.disk_file_leave #[(.pointer ((some a_3))), (.int .i64 (IntKind.i64.wrap (v_13 + (if (IntKind.i64.wrap (((v_14.n : Int)) - v_15)) < (if keep1 < 0 then 0 else keep1) then (IntKind.i64.wrap (((v_14.n : Int)) - v_15)) else (if keep1 < 0 then 0 else keep1)))))] (fun (v_16 : Unit) (h : Heap) =>
  R (.int .i64 0) h) h))))))))))))))) h
def disk_Disk_Fall.ann : Ann := (.seq .leaf (.seq (.seq .leaf (.cond (.seq .leaf .leaf) .leaf)) (.seq (.any (.loc 0 (.loc 1 (.loc 2 (.loc 3 (.loc 4 (.loc 5 (.loc 6 (.loc 8 (.loc 9 (.loc 10 (.loc 11 (.loc 12 (.loc 13 (.loc 16 (.loc 17 (.loc 18 (.loc 19 (.st 7 25165824 (.st 14 31490048 (.loc 15 (.st 20 31457280 (.loc 21 (.loc 22 (.loc 23 (.last 24 .done)))))))))))))))))))))))))) (.seq .leaf .leaf))))
theorem disk_Disk_Fall.eq (d0 : Option Addr) (keep1 : Int) (R : Value → Heap → Prop) (h : Heap) : disk_Disk_Fall.body d0 keep1 R h = evFn Try.prog Try.f15 disk_Disk_Fall.ann [(.pointer d0), (.int .i64 keep1)] R h := by kernel_rfl
theorem disk_Disk_Fall.calls {d0 : Option Addr} {keep1 : Int} {R : Value → Heap → Prop} {h : Heap} (H : disk_Disk_Fall.body d0 keep1 R h) : HC Try.prog F.disk_Disk_Fall #[(.pointer d0), (.int .i64 keep1)] R h :=
  evFn_sound mixed Try.func15 (by kernel_rfl) (disk_Disk_Fall.eq d0 keep1 R h ▸ H)

/-! (*zugzwang/disk.Disk).Sync -/
def disk_Disk_Sync.body (d0 : Option Addr) (R : Value → Heap → Prop) (h : Heap) : Prop :=
  callK Try.prog .bool F.disk_Disk_there #[(.pointer d0)] (fun (v_1 : Bool) (h : Heap) =>
  if (!v_1) = true then
  R (.int .i64 1) h
  else
  derefK d0 (fun (a_2 : Addr) =>
  fldK ((some a_2)) 0 (fun (a_3 : Addr) =>
  fldK ((some a_3)) 0 (fun (a_4 : Addr) =>
  loadK .slice h ((some a_4)) (fun (v_5 : Sl) =>
  derefK d0 (fun (a_6 : Addr) =>
  fldK ((some a_6)) 0 (fun (a_7 : Addr) =>
  fldK ((some a_7)) 1 (fun (a_8 : Addr) =>
  storeK h ((some a_8)) (.int .i64 ((v_5.n : Int))) (fun (h : Heap) =>
  R (.int .i64 0) h))))))))) h
def disk_Disk_Sync.ann : Ann := (.seq .leaf (.seq (.seq .leaf (.cond (.seq .leaf .leaf) .leaf)) (.seq .leaf (.seq .leaf .leaf))))
theorem disk_Disk_Sync.eq (d0 : Option Addr) (R : Value → Heap → Prop) (h : Heap) : disk_Disk_Sync.body d0 R h = evFn Try.prog Try.f16 disk_Disk_Sync.ann [(.pointer d0)] R h := by kernel_rfl
theorem disk_Disk_Sync.calls {d0 : Option Addr} {R : Value → Heap → Prop} {h : Heap} (H : disk_Disk_Sync.body d0 R h) : HC Try.prog F.disk_Disk_Sync #[(.pointer d0)] R h :=
  evFn_sound mixed Try.func16 (by kernel_rfl) (disk_Disk_Sync.eq d0 R h ▸ H)

/-! (*zugzwang/disk.Disk).Write -/
def disk_Disk_Write.body (d0 : Option Addr) (rows1 : Sl) (R : Value → Heap → Prop) (h : Heap) : Prop :=
  callK Try.prog .bool F.disk_Disk_there #[(.pointer d0)] (fun (v_1 : Bool) (h : Heap) =>
  if (!v_1) = true then
  R (.int .i64 1) h
  else
  derefK d0 (fun (a_2 : Addr) =>
  fldK ((some a_2)) 0 (fun (a_3 : Addr) =>
  callK Try.prog .bool F.disk_file_fits #[(.pointer ((some a_3))), (.slice rows1.a rows1.n rows1.c)] (fun (v_4 : Bool) (h : Heap) =>
  if (!v_4) = true then
  R (.int .i64 3) h
  else
  derefK d0 (fun (a_5 : Addr) =>
  fldK ((some a_5)) 0 (fun (a_6 : Addr) =>
  callK Try.prog .unit F.disk_file_put #[(.pointer ((some a_6))), (.slice rows1.a rows1.n rows1.c)] (fun (v_7 : Unit) (h : Heap) =>
  R (.int .i64 0) h) h))) h))) h
def disk_Disk_Write.ann : Ann := (.seq .leaf (.seq (.block (.seq .leaf (.cond (.seq .leaf .leaf) (.seq .leaf (.cond (.seq .leaf .leaf) .leaf))))) (.seq .leaf (.seq .leaf .leaf))))
theorem disk_Disk_Write.eq (d0 : Option Addr) (rows1 : Sl) (R : Value → Heap → Prop) (h : Heap) : disk_Disk_Write.body d0 rows1 R h = evFn Try.prog Try.f17 disk_Disk_Write.ann [(.pointer d0), (.slice rows1.a rows1.n rows1.c)] R h := by kernel_rfl
theorem disk_Disk_Write.calls {d0 : Option Addr} {rows1 : Sl} {R : Value → Heap → Prop} {h : Heap} (H : disk_Disk_Write.body d0 rows1 R h) : HC Try.prog F.disk_Disk_Write #[(.pointer d0), (.slice rows1.a rows1.n rows1.c)] R h :=
  evFn_sound mixed Try.func17 (by kernel_rfl) (disk_Disk_Write.eq d0 rows1 R h ▸ H)

/-! zugzwang/zugzwanglaw25.awake -/
def law25_awake.body  (R : Value → Heap → Prop) (h : Heap) : Prop :=
  callK Try.prog (Kd.pair .ptr (.int .i64)) F.disk_New #[(.slice none 0 0)] (fun (v_1 : Option Addr × Int) (h : Heap) =>
  if (v_1.2 != 0) = true then
  R (.bool false) h
  else
  newSlK h 2 #[(.int .u8 1), (.int .u8 2)] T.uint8 (fun (v_2 : Sl) (h : Heap) =>
  newSlK h 1 #[(.slice v_2.a v_2.n v_2.c)] T.sl_uint8 (fun (v_3 : Sl) (h : Heap) =>
  callK Try.prog (.int .i64) F.disk_Disk_Write #[(.pointer v_1.1), (.slice v_3.a v_3.n v_3.c)] (fun (v_4 : Int) (h : Heap) =>
  if (v_4 != 0) = true then
  R (.bool false) h
  else
  callK Try.prog (.int .i64) F.disk_Disk_Sync #[(.pointer v_1.1)] (fun (v_5 : Int) (h : Heap) =>
  if (v_5 != 0) = true then
  R (.bool false) h
  else
  newSlK h 1 #[(.int .u8 3)] T.uint8 (fun (v_6 : Sl) (h : Heap) =>
  newSlK h 2 #[(.int .u8 4), (.int .u8 5)] T.uint8 (fun (v_7 : Sl) (h : Heap) =>
  newSlK h 2 #[(.slice v_6.a v_6.n v_6.c), (.slice v_7.a v_7.n v_7.c)] T.sl_uint8 (fun (v_8 : Sl) (h : Heap) =>
  callK Try.prog (.int .i64) F.disk_Disk_Write #[(.pointer v_1.1), (.slice v_8.a v_8.n v_8.c)] (fun (v_9 : Int) (h : Heap) =>
  if (v_9 != 0) = true then
  R (.bool false) h
  else
  callK Try.prog (.int .i64) F.disk_Disk_Synced #[(.pointer v_1.1)] (fun (v_10 : Int) (h : Heap) =>
  if (v_10 != 2) = true then
  R (.bool false) h
  else
  callK Try.prog (.int .i64) F.disk_Disk_Fall #[(.pointer v_1.1), (.int .i64 1)] (fun (v_11 : Int) (h : Heap) =>
  if (v_11 != 0) = true then
  R (.bool false) h
  else
  callK Try.prog .slice F.disk_Disk_Bytes #[(.pointer v_1.1)] (fun (v_12 : Sl) (h : Heap) =>
  newSlK h 3 #[(.int .u8 1), (.int .u8 2), (.int .u8 3)] T.uint8 (fun (v_13 : Sl) (h : Heap) =>
  callK Try.prog .bool F.kit_SameBytes #[(.slice v_12.a v_12.n v_12.c), (.slice v_13.a v_13.n v_13.c)] (fun (v_14 : Bool) (h : Heap) =>
  if v_14 = true then
  callK Try.prog (.int .i64) F.disk_Disk_Synced #[(.pointer v_1.1)] (fun (v_15 : Int) (h : Heap) =>
  R (.bool (v_15 == 3)) h) h
  else
  R (.bool false) h) h)) h) h) h) h)))) h) h))) h
def law25_awake.ann : Ann := (.seq .leaf (.seq .leaf (.seq (.seq .leaf (.cond (.seq .leaf .leaf) .leaf)) (.seq .leaf .leaf))))
theorem law25_awake.eq  (R : Value → Heap → Prop) (h : Heap) : law25_awake.body  R h = evFn Try.prog Try.f7 law25_awake.ann [] R h := by kernel_rfl
theorem law25_awake.calls  {R : Value → Heap → Prop} {h : Heap} (H : law25_awake.body  R h) : HC Try.prog F.law25_awake #[] R h :=
  evFn_sound mixed Try.func7 (by kernel_rfl) (law25_awake.eq  R h ▸ H)

/-! zugzwang/zugzwanglaw25.size -/
def law25_size.body (l0 : Sl) (R : Value → Heap → Prop) (h : Heap) : Prop :=
  loopW (fun X_2 (s_1 : Int × Int) (h : Heap) =>
  if (decide (s_1.2 < ((l0.n : Int)))) = true then
  if (decide (s_1.1 ≤ 2000)) = true then
  idxK l0 s_1.2 (sizeOfT Try.prog T.zugzwanglaw25_Deed) (fun (a_3 : Addr) =>
  fldK ((some a_3)) 2 (fun (a_4 : Addr) =>
  loadK .slice h ((some a_4)) (fun (v_5 : Sl) =>
  loopW (fun X_7 (s_6 : Int × Int) (h : Heap) =>
  idxK l0 s_1.2 (sizeOfT Try.prog T.zugzwanglaw25_Deed) (fun (a_8 : Addr) =>
  fldK ((some a_8)) 2 (fun (a_9 : Addr) =>
  loadK .slice h ((some a_9)) (fun (v_10 : Sl) =>
  if (decide (s_6.2 < ((v_10.n : Int)))) = true then
  if (decide (s_6.1 ≤ 2000)) = true then
  idxK l0 s_1.2 (sizeOfT Try.prog T.zugzwanglaw25_Deed) (fun (a_11 : Addr) =>
  fldK ((some a_11)) 2 (fun (a_12 : Addr) =>
  loadK .slice h ((some a_12)) (fun (v_13 : Sl) =>
  idxK v_13 s_6.2 (sizeOfT Try.prog T.sl_uint8) (fun (a_14 : Addr) =>
  loadK .slice h ((some a_14)) (fun (v_15 : Sl) =>
  X_7 (IntKind.i64.wrap (s_6.1 + ((v_15.n : Int))), IntKind.i64.wrap (s_6.2 + 1)) h)))))
  else
  X_2 (s_6.1, IntKind.i64.wrap (s_1.2 + 1)) h
  else
  X_2 (s_6.1, IntKind.i64.wrap (s_1.2 + 1)) h)))) (IntKind.i64.wrap (s_1.1 + ((v_5.n : Int))), 0) h)))
  else
  R (.int .i64 s_1.1) h
  else
  R (.int .i64 s_1.1) h) ((l0.n : Int), 0) h
def law25_size.ann : Ann := (.seq .leaf (.seq .leaf (.seq (.seq .leaf (.block (.loop [(3, (.int .i64)), (4, (.int .i64))] (.seq (.seq .leaf (.cond .leaf .leaf)) (.seq (.block (.seq .leaf (.seq .leaf (.block (.loop [(3, (.int .i64)), (5, (.int .i64))] (.seq (.seq .leaf (.cond .leaf .leaf)) (.seq (.block .leaf) .leaf))))))) .leaf))))) (.seq .leaf .leaf))))
theorem law25_size.eq (l0 : Sl) (R : Value → Heap → Prop) (h : Heap) : law25_size.body l0 R h = evFn Try.prog Try.f8 law25_size.ann [(.slice l0.a l0.n l0.c)] R h := by kernel_rfl
theorem law25_size.calls {l0 : Sl} {R : Value → Heap → Prop} {h : Heap} (H : law25_size.body l0 R h) : HC Try.prog F.law25_size #[(.slice l0.a l0.n l0.c)] R h :=
  evFn_sound mixed Try.func8 (by kernel_rfl) (law25_size.eq l0 R h ▸ H)

/-! zugzwang/zugzwangkit.Pick -/
def kit_Pick.body (x0 : Int) (n1 : Int) (R : Value → Heap → Prop) (h : Heap) : Prop :=
  if (decide (n1 < 1)) = true then
  R (.int .i64 0) h
  else
  divK n1
  (if (decide ((Int.tmod x0 n1) < 0)) = true then
  R (.int .i64 (IntKind.i64.wrap ((Int.tmod x0 n1) + n1))) h
  else
  R (.int .i64 (Int.tmod x0 n1)) h)
def kit_Pick.ann : Ann := (.seq .leaf (.seq (.seq .leaf (.cond (.seq .leaf .leaf) .leaf)) (.seq .leaf (.seq (.seq .leaf (.cond .leaf .leaf)) (.seq .leaf .leaf)))))
theorem kit_Pick.eq (x0 : Int) (n1 : Int) (R : Value → Heap → Prop) (h : Heap) : kit_Pick.body x0 n1 R h = evFn Try.prog Try.f18 kit_Pick.ann [(.int .i64 x0), (.int .i64 n1)] R h := by kernel_rfl
theorem kit_Pick.calls {x0 : Int} {n1 : Int} {R : Value → Heap → Prop} {h : Heap} (H : kit_Pick.body x0 n1 R h) : HC Try.prog F.kit_Pick #[(.int .i64 x0), (.int .i64 n1)] R h :=
  evFn_sound mixed Try.func18 (by kernel_rfl) (kit_Pick.eq x0 n1 R h ▸ H)

/-! zugzwang/zugzwanglaw25.do -/
def law25_do.body (d0 : Option Addr) (x1 : Array Value) (R : Value → Heap → Prop) (h : Heap) : Prop :=
  newK h x1 T.zugzwanglaw25_Deed (fun (x_1 : Option Addr) (h : Heap) =>
  fldK x_1 0 (fun (a_2 : Addr) =>
  loadK (.int .i64) h ((some a_2)) (fun (v_3 : Int) =>
  callK Try.prog (.int .i64) F.kit_Pick #[(.int .i64 v_3), (.int .i64 3)] (fun (v_4 : Int) (h : Heap) =>
  if (v_4 == 0) = true then
  fldK x_1 2 (fun (a_5 : Addr) =>
  loadK .slice h ((some a_5)) (fun (v_6 : Sl) =>
  callK Try.prog (.int .i64) F.disk_Disk_Write #[(.pointer d0), (.slice v_6.a v_6.n v_6.c)] (fun (v_7 : Int) (h : Heap) =>
  R (.int .i64 v_7) h) h))
  else
  if (v_4 == 1) = true then
  callK Try.prog (.int .i64) F.disk_Disk_Sync #[(.pointer d0)] (fun (v_8 : Int) (h : Heap) =>
  R (.int .i64 v_8) h) h
  else
  fldK x_1 1 (fun (a_9 : Addr) =>
  loadK (.int .i64) h ((some a_9)) (fun (v_10 : Int) =>
  callK Try.prog (.int .i64) F.disk_Disk_Fall #[(.pointer d0), (.int .i64 v_10)] (fun (v_11 : Int) (h : Heap) =>
  R (.int .i64 v_11) h) h))) h)))
def law25_do.ann : Ann := (.seq .leaf (.seq (.seq .leaf (.block (.seq .leaf (.cond (.seq .leaf .leaf) (.seq .leaf (.cond (.seq .leaf .leaf) .leaf)))))) (.seq .leaf .leaf)))
theorem law25_do.eq (d0 : Option Addr) (x1 : Array Value) (R : Value → Heap → Prop) (h : Heap) : law25_do.body d0 x1 R h = evFn Try.prog Try.f12 law25_do.ann [(.pointer d0), (.agg x1)] R h := by kernel_rfl
theorem law25_do.calls {d0 : Option Addr} {x1 : Array Value} {R : Value → Heap → Prop} {h : Heap} (H : law25_do.body d0 x1 R h) : HC Try.prog F.law25_do #[(.pointer d0), (.agg x1)] R h :=
  evFn_sound mixed Try.func12 (by kernel_rfl) (law25_do.eq d0 x1 R h ▸ H)

/-! (*zugzwang/disk.Disk).Copy -/
def disk_Disk_Copy.body (d0 : Option Addr) (R : Value → Heap → Prop) (h : Heap) : Prop :=
  callK Try.prog .bool F.disk_Disk_there #[(.pointer d0)] (fun (v_1 : Bool) (h : Heap) =>
  if (!v_1) = true then
  R (.pointer none) h
  else
  derefK d0 (fun (a_2 : Addr) =>
  fldK ((some a_2)) 0 (fun (a_3 : Addr) =>
  fldK ((some a_3)) 0 (fun (a_4 : Addr) =>
  derefK d0 (fun (a_5 : Addr) =>
  fldK ((some a_5)) 0 (fun (a_6 : Addr) =>
  fldK ((some a_6)) 1 (fun (a_7 : Addr) =>
  loadK .slice h ((some a_4)) (fun (v_8 : Sl) =>
  loadK (.int .i64) h ((some a_7)) (fun (v_9 : Int) =>
  callK Try.prog .slice F.slices_Clone_byte_byte #[(.slice v_8.a v_8.n v_8.c)] (fun (v_10 : Sl) (h : Heap) =>
  stillK (.int .i64) h ((some a_7)) v_9 ∧
  buildK Try.prog (Instr.build T.disk_file #[(0, (.slice v_10.a v_10.n v_10.c)), (1, (.int .i64 v_9))]) (fun (v_11 : Array Value) =>
  buildK Try.prog (Instr.build T.disk_Disk #[(0, (.agg v_11)), (1, (.bool true))]) (fun (v_12 : Array Value) =>
  newK h v_12 T.disk_Disk (fun (v_13 : Option Addr) (h : Heap) =>
  R (.pointer v_13) h)))) h))))))))) h
def disk_Disk_Copy.ann : Ann := (.seq .leaf (.seq (.seq .leaf (.cond (.seq .leaf .leaf) .leaf)) (.seq (.any (.loc 0 (.loc 1 (.loc 2 (.loc 3 (.loc 6 (.loc 7 (.loc 8 (.loc 9 (.st 4 30752 (.st 10 30720 (.last 5 (.loc 11 (.loc 12 (.last 13 (.loc 14 .done)))))))))))))))) .leaf)))
theorem disk_Disk_Copy.eq (d0 : Option Addr) (R : Value → Heap → Prop) (h : Heap) : disk_Disk_Copy.body d0 R h = evFn Try.prog Try.f14 disk_Disk_Copy.ann [(.pointer d0)] R h := by kernel_rfl
theorem disk_Disk_Copy.calls {d0 : Option Addr} {R : Value → Heap → Prop} {h : Heap} (H : disk_Disk_Copy.body d0 R h) : HC Try.prog F.disk_Disk_Copy #[(.pointer d0)] R h :=
  evFn_sound mixed Try.func14 (by kernel_rfl) (disk_Disk_Copy.eq d0 R h ▸ H)

/-! zugzwang/zugzwanglaw25.DiskStays -/
def law25_DiskStays.body (l0 : Sl) (keep1 : Int) (R : Value → Heap → Prop) (h : Heap) : Prop :=
  callK Try.prog .bool F.law25_awake #[] (fun (v_1 : Bool) (h : Heap) =>
  if (!v_1) = true then
  R (.bool false) h
  else
  callK Try.prog (.int .i64) F.law25_size #[(.slice l0.a l0.n l0.c)] (fun (v_2 : Int) (h : Heap) =>
  if (decide (v_2 > 2000)) = true then
  R (.bool true) h
  else
  callK Try.prog (Kd.pair .ptr (.int .i64)) F.disk_New #[(.slice none 0 0)] (fun (v_3 : Option Addr × Int) (h : Heap) =>
  if (v_3.2 != 0) = true then
  R (.bool false) h
  else
  loopW (fun X_5 (s_4 : Int) (h : Heap) =>
  if (decide (s_4 < ((l0.n : Int)))) = true then
  callK Try.prog .slice F.disk_Disk_Bytes #[(.pointer v_3.1)] (fun (v_6 : Sl) (h : Heap) =>
  callK Try.prog (.int .i64) F.disk_Disk_Synced #[(.pointer v_3.1)] (fun (v_7 : Int) (h : Heap) =>
  idxK l0 s_4 (sizeOfT Try.prog T.zugzwanglaw25_Deed) (fun (a_8 : Addr) =>
  loadAggK (sizeOfT Try.prog T.zugzwanglaw25_Deed) h ((some a_8)) (fun (v_9 : Array Value) =>
  callK Try.prog (.int .i64) F.law25_do #[(.pointer v_3.1), (.agg v_9)] (fun (v_10 : Int) (h : Heap) =>
  callK Try.prog .slice F.disk_Disk_Bytes #[(.pointer v_3.1)] (fun (v_11 : Sl) (h : Heap) =>
  if (v_10 != 0) = true then
  R (.bool false) h
  else
  if (decide (((v_11.n : Int)) < v_7)) = true then
  R (.bool false) h
  else
  sliceK v_11 none (some v_7) none (sizeOfT Try.prog T.uint8) (fun (v_12 : Sl) =>
  sliceK v_6 none (some v_7) none (sizeOfT Try.prog T.uint8) (fun (v_13 : Sl) =>
  callQ Try.prog .bool F.kit_SameBytes #[(.slice v_12.a v_12.n v_12.c), (.slice v_13.a v_13.n v_13.c)] (fun (v_14 : Bool) =>
  if (!v_14) = true then
  R (.bool false) h
  else
  callQ Try.prog (.int .i64) F.disk_Disk_Synced #[(.pointer v_3.1)] (fun (v_15 : Int) =>
  if (decide (v_15 < v_7)) = true then
  R (.bool false) h
  else
  callQ Try.prog (.int .i64) F.disk_Disk_Synced #[(.pointer v_3.1)] (fun (v_16 : Int) =>
  if (decide (v_16 > ((v_11.n : Int)))) = true then
  R (.bool false) h
  else
  callK Try.prog .ptr F.disk_Disk_Copy #[(.pointer v_3.1)] (fun (v_17 : Option Addr) (h : Heap) =>
  callK Try.prog (.int .i64) F.disk_Disk_Fall #[(.pointer v_17), (.int .i64 keep1)] (fun (v_18 : Int) (h : Heap) =>
  if (v_18 != 0) = true then
  R (.bool false) h
  else
  callK Try.prog .slice F.disk_Disk_Bytes #[(.pointer v_17)] (fun (v_19 : Sl) (h : Heap) =>
  callK Try.prog (.int .i64) F.disk_Disk_Synced #[(.pointer v_3.1)] (fun (v_20 : Int) (h : Heap) =>
  callK Try.prog (.int .i64) F.disk_Disk_Synced #[(.pointer v_3.1)] (fun (v_21 : Int) (h : Heap) =>
  if (((v_19.n : Int)) != (IntKind.i64.wrap (v_20 + (if (IntKind.i64.wrap (((v_11.n : Int)) - v_21)) < (if keep1 < 0 then 0 else keep1) then (IntKind.i64.wrap (((v_11.n : Int)) - v_21)) else (if keep1 < 0 then 0 else keep1))))) = true then
  R (.bool false) h
  else
  sliceK v_11 none (some (IntKind.i64.wrap (v_20 + (if (IntKind.i64.wrap (((v_11.n : Int)) - v_21)) < (if keep1 < 0 then 0 else keep1) then (IntKind.i64.wrap (((v_11.n : Int)) - v_21)) else (if keep1 < 0 then 0 else keep1))))) none (sizeOfT Try.prog T.uint8) (fun (v_22 : Sl) =>
  callK Try.prog .bool F.kit_SameBytes #[(.slice v_19.a v_19.n v_19.c), (.slice v_22.a v_22.n v_22.c)] (fun (v_23 : Bool) (h : Heap) =>
  if (!v_23) = true then
  R (.bool false) h
  else
  callK Try.prog (.int .i64) F.disk_Disk_Synced #[(.pointer v_17)] (fun (v_24 : Int) (h : Heap) =>
  if (v_24 != (IntKind.i64.wrap (v_20 + (if (IntKind.i64.wrap (((v_11.n : Int)) - v_21)) < (if keep1 < 0 then 0 else keep1) then (IntKind.i64.wrap (((v_11.n : Int)) - v_21)) else (if keep1 < 0 then 0 else keep1))))) = true then
  R (.bool false) h
  else
  callK Try.prog .slice F.disk_Disk_Bytes #[(.pointer v_3.1)] (fun (v_25 : Sl) (h : Heap) =>
  callK Try.prog .bool F.kit_SameBytes #[(.slice v_25.a v_25.n v_25.c), (.slice v_11.a v_11.n v_11.c)] (fun (v_26 : Bool) (h : Heap) =>
  if (!v_26) = true then
  R (.bool false) h
  else
  X_5 (IntKind.i64.wrap (s_4 + 1)) h) h) h) h) h)) h) h) h) h) h) h) h) h))) h) h))) h) h
  else
  callK Try.prog .slice F.disk_Disk_Bytes #[(.pointer v_3.1)] (fun (v_27 : Sl) (h : Heap) =>
  callK Try.prog (.int .i64) F.disk_Disk_Sync #[(.pointer v_3.1)] (fun (v_28 : Int) (h : Heap) =>
  callK Try.prog (.int .i64) F.disk_Disk_Fall #[(.pointer v_3.1), (.int .i64 keep1)] (fun (v_29 : Int) (h : Heap) =>
  callK Try.prog .slice F.disk_Disk_Bytes #[(.pointer v_3.1)] (fun (v_30 : Sl) (h : Heap) =>
  callK Try.prog .bool F.kit_SameBytes #[(.slice v_30.a v_30.n v_30.c), (.slice v_27.a v_27.n v_27.c)] (fun (v_31 : Bool) (h : Heap) =>
  R (.bool v_31) h) h) h) h) h) h) 0 h) h) h) h
def law25_DiskStays.ann : Ann := (.seq .leaf (.seq (.seq .leaf (.cond (.seq .leaf .leaf) .leaf)) (.seq (.seq .leaf (.cond (.seq .leaf .leaf) .leaf)) (.seq .leaf (.seq (.seq .leaf (.cond (.seq .leaf .leaf) .leaf)) (.seq (.seq .leaf (.block (.loop [(7, (.int .i64))] (.seq (.seq .leaf (.cond .leaf .leaf)) (.seq (.block (.seq .leaf (.seq .leaf (.seq .leaf (.seq (.seq .leaf (.cond (.seq .leaf .leaf) .leaf)) (.seq .leaf (.seq (.seq .leaf (.cond (.seq .leaf .leaf) .leaf)) (.seq .leaf (.seq .leaf (.seq .leaf (.cond (.seq .leaf .leaf) .leaf))))))))))) .leaf))))) (.seq .leaf (.seq .leaf (.seq .leaf (.seq .leaf .leaf))))))))))
theorem law25_DiskStays.eq (l0 : Sl) (keep1 : Int) (R : Value → Heap → Prop) (h : Heap) : law25_DiskStays.body l0 keep1 R h = evFn Try.prog Try.f3 law25_DiskStays.ann [(.slice l0.a l0.n l0.c), (.int .i64 keep1)] R h := by kernel_rfl
theorem law25_DiskStays.calls {l0 : Sl} {keep1 : Int} {R : Value → Heap → Prop} {h : Heap} (H : law25_DiskStays.body l0 keep1 R h) : HC Try.prog F.law25_DiskStays #[(.slice l0.a l0.n l0.c), (.int .i64 keep1)] R h :=
  evFn_sound mixed Try.func3 (by kernel_rfl) (law25_DiskStays.eq l0 keep1 R h ▸ H)

/-! (*zugzwang/disk.Disk).Cut -/
def disk_Disk_Cut.body (d0 : Option Addr) (n1 : Int) (R : Value → Heap → Prop) (h : Heap) : Prop :=
  callK Try.prog .bool F.disk_Disk_there #[(.pointer d0)] (fun (v_1 : Bool) (h : Heap) =>
  if (!v_1) = true then
  R (.int .i64 1) h
  else
  if (decide (n1 < 0)) = true then
  R (.int .i64 6) h
  else
  derefK d0 (fun (a_2 : Addr) =>
  fldK ((some a_2)) 0 (fun (a_3 : Addr) =>
  fldK ((some a_3)) 0 (fun (a_4 : Addr) =>
  loadK .slice h ((some a_4)) (fun (v_5 : Sl) =>
  if (decide (n1 > ((v_5.n : Int)))) = true then
  R (.int .i64 6) h
  else
  derefK d0 (fun (a_6 : Addr) =>
  fldK ((some a_6)) 0 (fun (a_7 : Addr) =>
  callK Try.prog .unit F.disk_file_leave #[(.pointer ((some a_7))), (.int .i64 n1)] (fun (v_8 : Unit) (h : Heap) =>
  R (.int .i64 0) h) h))))))) h
def disk_Disk_Cut.ann : Ann := (.seq .leaf (.seq (.block (.seq .leaf (.cond (.seq .leaf .leaf) (.seq .leaf (.cond (.seq .leaf .leaf) .leaf))))) (.seq .leaf (.seq .leaf .leaf))))
theorem disk_Disk_Cut.eq (d0 : Option Addr) (n1 : Int) (R : Value → Heap → Prop) (h : Heap) : disk_Disk_Cut.body d0 n1 R h = evFn Try.prog Try.f20 disk_Disk_Cut.ann [(.pointer d0), (.int .i64 n1)] R h := by kernel_rfl
theorem disk_Disk_Cut.calls {d0 : Option Addr} {n1 : Int} {R : Value → Heap → Prop} {h : Heap} (H : disk_Disk_Cut.body d0 n1 R h) : HC Try.prog F.disk_Disk_Cut #[(.pointer d0), (.int .i64 n1)] R h :=
  evFn_sound mixed Try.func20 (by kernel_rfl) (disk_Disk_Cut.eq d0 n1 R h ▸ H)

/-! zugzwang/zugzwangkit.mark -/
def kit_mark.body (k0 : Int) (i1 : Int) (R : Value → Heap → Prop) (h : Heap) : Prop :=
  R (.int .i64 (IntKind.i64.wrap ((IntKind.i64.wrap (1000003 * (IntKind.i64.wrap (k0 + 7)))) + i1))) h
def kit_mark.ann : Ann := (.seq .leaf (.seq .leaf .leaf))
theorem kit_mark.eq (k0 : Int) (i1 : Int) (R : Value → Heap → Prop) (h : Heap) : kit_mark.body k0 i1 R h = evFn Try.prog Try.f40 kit_mark.ann [(.int .i64 k0), (.int .i64 i1)] R h := by kernel_rfl
theorem kit_mark.calls {k0 : Int} {i1 : Int} {R : Value → Heap → Prop} {h : Heap} (H : kit_mark.body k0 i1 R h) : HC Try.prog F.kit_mark #[(.int .i64 k0), (.int .i64 i1)] R h :=
  evFn_sound mixed Try.func40 (by kernel_rfl) (kit_mark.eq k0 i1 R h ▸ H)

/-! zugzwang/zugzwangkit.markByte -/
def kit_markByte.body (k0 : Int) (i1 : Int) (R : Value → Heap → Prop) (h : Heap) : Prop :=
  callK Try.prog (.int .i64) F.kit_mark #[(.int .i64 k0), (.int .i64 i1)] (fun (v_1 : Int) (h : Heap) =>
  shiftK 56
  (R (.int .u8 (IntKind.u8.wrap (Int.fdiv (IntKind.u64.wrap ((IntKind.u64.wrap v_1) * 11400714819323198485)) (2 ^ min (Int.toNat 56) (IntKind.bits .u64))))) h)) h
def kit_markByte.ann : Ann := (.seq .leaf (.seq .leaf .leaf))
theorem kit_markByte.eq (k0 : Int) (i1 : Int) (R : Value → Heap → Prop) (h : Heap) : kit_markByte.body k0 i1 R h = evFn Try.prog Try.f39 kit_markByte.ann [(.int .i64 k0), (.int .i64 i1)] R h := by kernel_rfl
theorem kit_markByte.calls {k0 : Int} {i1 : Int} {R : Value → Heap → Prop} {h : Heap} (H : kit_markByte.body k0 i1 R h) : HC Try.prog F.kit_markByte #[(.int .i64 k0), (.int .i64 i1)] R h :=
  evFn_sound mixed Try.func39 (by kernel_rfl) (kit_markByte.eq k0 i1 R h ▸ H)

/-! zugzwang/zugzwangkit.LentBytes -/
def kit_LentBytes.body (l0 : Sl) (R : Value → Heap → Prop) (h : Heap) : Prop :=
  opK Try.prog .slice (Instr.makeSlice T.sl_uint8 (.int .i64 0) (.int .i64 (IntKind.i64.wrap (((l0.n : Int)) + 12)))) (fun (v_1 : Sl) (h : Heap) =>
  opK Try.prog .slice (Builtin.append_ #[T.sl_uint8, T.sl_uint8] T.sl_uint8 #[(.slice v_1.a v_1.n v_1.c), (.slice l0.a l0.n l0.c)]) (fun (v_2 : Sl) (h : Heap) =>
  loopW (fun X_4 (s_3 : Sl × Int) (h : Heap) =>
  if (decide (s_3.2 < 12)) = true then
  callK Try.prog (.int .u8) F.kit_markByte #[(.int .i64 1), (.int .i64 s_3.2)] (fun (v_5 : Int) (h : Heap) =>
  newSlK h 1 #[(.int .u8 v_5)] T.uint8 (fun (v_6 : Sl) (h : Heap) =>
  opK Try.prog .slice (Builtin.append_ #[T.sl_uint8, T.sl_uint8] T.sl_uint8 #[(.slice s_3.1.a s_3.1.n s_3.1.c), (.slice v_6.a v_6.n v_6.c)]) (fun (v_7 : Sl) (h : Heap) =>
  X_4 (v_7, IntKind.i64.wrap (s_3.2 + 1)) h) h)) h
  else
  sliceK s_3.1 none (some ((l0.n : Int))) none (sizeOfT Try.prog T.uint8) (fun (v_8 : Sl) =>
  R (.slice v_8.a v_8.n v_8.c) h)) (v_2, 0) h) h) h
def kit_LentBytes.ann : Ann := (.seq .leaf (.seq .leaf (.seq .leaf (.seq (.seq .leaf (.block (.loop [(3, .slice), (4, (.int .i64))] (.seq (.seq .leaf (.cond .leaf .leaf)) (.seq (.block .leaf) .leaf))))) (.seq .leaf .leaf)))))
theorem kit_LentBytes.eq (l0 : Sl) (R : Value → Heap → Prop) (h : Heap) : kit_LentBytes.body l0 R h = evFn Try.prog Try.f34 kit_LentBytes.ann [(.slice l0.a l0.n l0.c)] R h := by kernel_rfl
theorem kit_LentBytes.calls {l0 : Sl} {R : Value → Heap → Prop} {h : Heap} (H : kit_LentBytes.body l0 R h) : HC Try.prog F.kit_LentBytes #[(.slice l0.a l0.n l0.c)] R h :=
  evFn_sound mixed Try.func34 (by kernel_rfl) (kit_LentBytes.eq l0 R h ▸ H)

/-! zugzwang/zugzwangkit.LentByteRows -/
def kit_LentByteRows.body (l0 : Sl) (R : Value → Heap → Prop) (h : Heap) : Prop :=
  loopW (fun X_2 (s_1 : Sl × Int) (h : Heap) =>
  if (decide (s_1.2 < ((l0.n : Int)))) = true then
  idxK l0 s_1.2 (sizeOfT Try.prog T.sl_uint8) (fun (a_3 : Addr) =>
  loadK .slice h ((some a_3)) (fun (v_4 : Sl) =>
  callK Try.prog .slice F.kit_LentBytes #[(.slice v_4.a v_4.n v_4.c)] (fun (v_5 : Sl) (h : Heap) =>
  newSlK h 1 #[(.slice v_5.a v_5.n v_5.c)] T.sl_uint8 (fun (v_6 : Sl) (h : Heap) =>
  opK Try.prog .slice (Builtin.append_ #[T.sl_sl_uint8, T.sl_sl_uint8] T.sl_sl_uint8 #[(.slice s_1.1.a s_1.1.n s_1.1.c), (.slice v_6.a v_6.n v_6.c)]) (fun (v_7 : Sl) (h : Heap) =>
  X_2 (v_7, IntKind.i64.wrap (s_1.2 + 1)) h) h)) h))
  else
  R (.slice s_1.1.a s_1.1.n s_1.1.c) h) (⟨none, 0, 0⟩, 0) h
def kit_LentByteRows.ann : Ann := (.seq .leaf (.seq .leaf (.seq (.seq .leaf (.block (.loop [(3, .slice), (4, (.int .i64))] (.seq (.seq .leaf (.cond .leaf .leaf)) (.seq (.block .leaf) .leaf))))) (.seq .leaf .leaf))))
theorem kit_LentByteRows.eq (l0 : Sl) (R : Value → Heap → Prop) (h : Heap) : kit_LentByteRows.body l0 R h = evFn Try.prog Try.f21 kit_LentByteRows.ann [(.slice l0.a l0.n l0.c)] R h := by kernel_rfl
theorem kit_LentByteRows.calls {l0 : Sl} {R : Value → Heap → Prop} {h : Heap} (H : kit_LentByteRows.body l0 R h) : HC Try.prog F.kit_LentByteRows #[(.slice l0.a l0.n l0.c)] R h :=
  evFn_sound mixed Try.func21 (by kernel_rfl) (kit_LentByteRows.eq l0 R h ▸ H)

/-! zugzwang/zugzwangref25.Join -/
def ref25_Join.body (rows0 : Sl) (R : Value → Heap → Prop) (h : Heap) : Prop :=
  loopW (fun X_2 (s_1 : Sl × Int) (h : Heap) =>
  if (decide (s_1.2 < ((rows0.n : Int)))) = true then
  idxK rows0 s_1.2 (sizeOfT Try.prog T.sl_uint8) (fun (a_3 : Addr) =>
  loadK .slice h ((some a_3)) (fun (v_4 : Sl) =>
  opK Try.prog .slice (Builtin.append_ #[T.sl_uint8, T.sl_uint8] T.sl_uint8 #[(.slice s_1.1.a s_1.1.n s_1.1.c), (.slice v_4.a v_4.n v_4.c)]) (fun (v_5 : Sl) (h : Heap) =>
  X_2 (v_5, IntKind.i64.wrap (s_1.2 + 1)) h) h))
  else
  R (.slice s_1.1.a s_1.1.n s_1.1.c) h) (⟨none, 0, 0⟩, 0) h
def ref25_Join.ann : Ann := (.seq .leaf (.seq .leaf (.seq (.seq .leaf (.block (.loop [(3, .slice), (4, (.int .i64))] (.seq (.seq .leaf (.cond .leaf .leaf)) (.seq (.block .leaf) .leaf))))) (.seq .leaf .leaf))))
theorem ref25_Join.eq (rows0 : Sl) (R : Value → Heap → Prop) (h : Heap) : ref25_Join.body rows0 R h = evFn Try.prog Try.f35 ref25_Join.ann [(.slice rows0.a rows0.n rows0.c)] R h := by kernel_rfl
theorem ref25_Join.calls {rows0 : Sl} {R : Value → Heap → Prop} {h : Heap} (H : ref25_Join.body rows0 R h) : HC Try.prog F.ref25_Join #[(.slice rows0.a rows0.n rows0.c)] R h :=
  evFn_sound mixed Try.func35 (by kernel_rfl) (ref25_Join.eq rows0 R h ▸ H)

/-! zugzwang/zugzwangref25.New -/
def ref25_New.body (rows0 : Sl) (R : Value → Heap → Prop) (h : Heap) : Prop :=
  callK Try.prog .slice F.ref25_Join #[(.slice rows0.a rows0.n rows0.c)] (fun (v_1 : Sl) (h : Heap) =>
  if (decide (((v_1.n : Int)) > 1048576)) = true then
  R (.tuple #[(.pointer none), (.int .i64 3)]) h
  else
  buildK Try.prog (Instr.build T.zugzwangref25_Disk #[(0, (.slice v_1.a v_1.n v_1.c))]) (fun (v_2 : Array Value) =>
  newK h v_2 T.zugzwangref25_Disk (fun (v_3 : Option Addr) (h : Heap) =>
  R (.tuple #[(.pointer v_3), (.int .i64 0)]) h))) h
def ref25_New.ann : Ann := (.seq .leaf (.seq .leaf (.seq (.seq .leaf (.cond (.seq .leaf .leaf) .leaf)) (.seq .leaf .leaf))))
theorem ref25_New.eq (rows0 : Sl) (R : Value → Heap → Prop) (h : Heap) : ref25_New.body rows0 R h = evFn Try.prog Try.f22 ref25_New.ann [(.slice rows0.a rows0.n rows0.c)] R h := by kernel_rfl
theorem ref25_New.calls {rows0 : Sl} {R : Value → Heap → Prop} {h : Heap} (H : ref25_New.body rows0 R h) : HC Try.prog F.ref25_New #[(.slice rows0.a rows0.n rows0.c)] R h :=
  evFn_sound mixed Try.func22 (by kernel_rfl) (ref25_New.eq rows0 R h ▸ H)

/-! zugzwang/zugzwangkit.KeptBytes -/
def kit_KeptBytes.body (out0 : Sl) (l1 : Sl) (R : Value → Heap → Prop) (h : Heap) : Prop :=
  if (((out0.n : Int)) != ((l1.n : Int))) = true then
  R (.bool false) h
  else
  sliceK out0 none (some (IntKind.i64.wrap (((l1.n : Int)) + 12))) none (sizeOfT Try.prog T.uint8) (fun (v_1 : Sl) =>
  loopW (fun X_3 (s_2 : Int) (h : Heap) =>
  if (decide (s_2 < ((v_1.n : Int)))) = true then
  if (decide (s_2 < ((l1.n : Int)))) = true then
  idxK v_1 s_2 (sizeOfT Try.prog T.uint8) (fun (a_4 : Addr) =>
  loadK (.int .u8) h ((some a_4)) (fun (v_5 : Int) =>
  idxK l1 s_2 (sizeOfT Try.prog T.uint8) (fun (a_6 : Addr) =>
  loadK (.int .u8) h ((some a_6)) (fun (v_7 : Int) =>
  if (!(v_5 == v_7)) = true then
  R (.bool false) h
  else
  if (decide (s_2 ≥ ((l1.n : Int)))) = true then
  idxK v_1 s_2 (sizeOfT Try.prog T.uint8) (fun (a_8 : Addr) =>
  loadK (.int .u8) h ((some a_8)) (fun (v_9 : Int) =>
  callQ Try.prog (.int .u8) F.kit_markByte #[(.int .i64 1), (.int .i64 (IntKind.i64.wrap (s_2 - ((l1.n : Int)))))] (fun (v_10 : Int) =>
  if (!(v_9 == v_10)) = true then
  R (.bool false) h
  else
  X_3 (IntKind.i64.wrap (s_2 + 1)) h) h))
  else
  X_3 (IntKind.i64.wrap (s_2 + 1)) h))))
  else
  if (decide (s_2 ≥ ((l1.n : Int)))) = true then
  idxK v_1 s_2 (sizeOfT Try.prog T.uint8) (fun (a_11 : Addr) =>
  loadK (.int .u8) h ((some a_11)) (fun (v_12 : Int) =>
  callQ Try.prog (.int .u8) F.kit_markByte #[(.int .i64 1), (.int .i64 (IntKind.i64.wrap (s_2 - ((l1.n : Int)))))] (fun (v_13 : Int) =>
  if (!(v_12 == v_13)) = true then
  R (.bool false) h
  else
  X_3 (IntKind.i64.wrap (s_2 + 1)) h) h))
  else
  X_3 (IntKind.i64.wrap (s_2 + 1)) h
  else
  R (.bool true) h) 0 h)
def kit_KeptBytes.ann : Ann := (.seq .leaf (.seq (.seq .leaf (.cond (.seq .leaf .leaf) .leaf)) (.seq .leaf (.seq (.seq .leaf (.block (.loop [(6, (.int .i64))] (.seq (.seq .leaf (.cond .leaf .leaf)) (.seq (.block (.seq .leaf (.cond (.seq .leaf .leaf) .leaf))) .leaf))))) (.seq .leaf .leaf)))))
theorem kit_KeptBytes.eq (out0 : Sl) (l1 : Sl) (R : Value → Heap → Prop) (h : Heap) : kit_KeptBytes.body out0 l1 R h = evFn Try.prog Try.f36 kit_KeptBytes.ann [(.slice out0.a out0.n out0.c), (.slice l1.a l1.n l1.c)] R h := by kernel_rfl
theorem kit_KeptBytes.calls {out0 : Sl} {l1 : Sl} {R : Value → Heap → Prop} {h : Heap} (H : kit_KeptBytes.body out0 l1 R h) : HC Try.prog F.kit_KeptBytes #[(.slice out0.a out0.n out0.c), (.slice l1.a l1.n l1.c)] R h :=
  evFn_sound mixed Try.func36 (by kernel_rfl) (kit_KeptBytes.eq out0 l1 R h ▸ H)

/-! zugzwang/zugzwangkit.KeptByteRows -/
def kit_KeptByteRows.body (in0 : Sl) (l1 : Sl) (R : Value → Heap → Prop) (h : Heap) : Prop :=
  if (((in0.n : Int)) != ((l1.n : Int))) = true then
  R (.bool false) h
  else
  loopW (fun X_2 (s_1 : Int) (h : Heap) =>
  if (decide (s_1 < ((l1.n : Int)))) = true then
  idxK in0 s_1 (sizeOfT Try.prog T.sl_uint8) (fun (a_3 : Addr) =>
  loadK .slice h ((some a_3)) (fun (v_4 : Sl) =>
  idxK l1 s_1 (sizeOfT Try.prog T.sl_uint8) (fun (a_5 : Addr) =>
  loadK .slice h ((some a_5)) (fun (v_6 : Sl) =>
  callQ Try.prog .bool F.kit_KeptBytes #[(.slice v_4.a v_4.n v_4.c), (.slice v_6.a v_6.n v_6.c)] (fun (v_7 : Bool) =>
  if (!v_7) = true then
  R (.bool false) h
  else
  X_2 (IntKind.i64.wrap (s_1 + 1)) h) h))))
  else
  R (.bool true) h) 0 h
def kit_KeptByteRows.ann : Ann := (.seq .leaf (.seq (.seq .leaf (.cond (.seq .leaf .leaf) .leaf)) (.seq (.seq .leaf (.block (.loop [(5, (.int .i64))] (.seq (.seq .leaf (.cond .leaf .leaf)) (.seq (.block (.seq .leaf (.cond (.seq .leaf .leaf) .leaf))) .leaf))))) (.seq .leaf .leaf))))
theorem kit_KeptByteRows.eq (in0 : Sl) (l1 : Sl) (R : Value → Heap → Prop) (h : Heap) : kit_KeptByteRows.body in0 l1 R h = evFn Try.prog Try.f23 kit_KeptByteRows.ann [(.slice in0.a in0.n in0.c), (.slice l1.a l1.n l1.c)] R h := by kernel_rfl
theorem kit_KeptByteRows.calls {in0 : Sl} {l1 : Sl} {R : Value → Heap → Prop} {h : Heap} (H : kit_KeptByteRows.body in0 l1 R h) : HC Try.prog F.kit_KeptByteRows #[(.slice in0.a in0.n in0.c), (.slice l1.a l1.n l1.c)] R h :=
  evFn_sound mixed Try.func23 (by kernel_rfl) (kit_KeptByteRows.eq in0 l1 R h ▸ H)

/-! (*zugzwang/disk.Disk).Len -/
def disk_Disk_Len.body (d0 : Option Addr) (R : Value → Heap → Prop) (h : Heap) : Prop :=
  callK Try.prog .bool F.disk_Disk_there #[(.pointer d0)] (fun (v_1 : Bool) (h : Heap) =>
  if (!v_1) = true then
  R (.int .i64 0) h
  else
  derefK d0 (fun (a_2 : Addr) =>
  fldK ((some a_2)) 0 (fun (a_3 : Addr) =>
  fldK ((some a_3)) 0 (fun (a_4 : Addr) =>
  loadK .slice h ((some a_4)) (fun (v_5 : Sl) =>
  R (.int .i64 ((v_5.n : Int))) h))))) h
def disk_Disk_Len.ann : Ann := (.seq .leaf (.seq (.seq .leaf (.cond (.seq .leaf .leaf) .leaf)) (.seq .leaf .leaf)))
theorem disk_Disk_Len.eq (d0 : Option Addr) (R : Value → Heap → Prop) (h : Heap) : disk_Disk_Len.body d0 R h = evFn Try.prog Try.f19 disk_Disk_Len.ann [(.pointer d0)] R h := by kernel_rfl
theorem disk_Disk_Len.calls {d0 : Option Addr} {R : Value → Heap → Prop} {h : Heap} (H : disk_Disk_Len.body d0 R h) : HC Try.prog F.disk_Disk_Len #[(.pointer d0)] R h :=
  evFn_sound mixed Try.func19 (by kernel_rfl) (disk_Disk_Len.eq d0 R h ▸ H)

/-! (*zugzwang/zugzwangref25.Disk).Bytes -/
def ref25_Disk_Bytes.body (d0 : Option Addr) (R : Value → Heap → Prop) (h : Heap) : Prop :=
  derefK d0 (fun (a_1 : Addr) =>
  fldK ((some a_1)) 0 (fun (a_2 : Addr) =>
  derefK d0 (fun (a_3 : Addr) =>
  fldK ((some a_3)) 1 (fun (a_4 : Addr) =>
  loadK .slice h ((some a_2)) (fun (v_5 : Sl) =>
  loadK .slice h ((some a_4)) (fun (v_6 : Sl) =>
  newSlK h 0 #[] T.uint8 (fun (v_7 : Sl) (h : Heap) =>
  opK Try.prog .slice (Builtin.append_ #[T.sl_uint8, T.sl_uint8] T.sl_uint8 #[(.slice v_7.a v_7.n v_7.c), (.slice v_5.a v_5.n v_5.c)]) (fun (v_8 : Sl) (h : Heap) =>
  stillK .slice h ((some a_4)) v_6 ∧
  opK Try.prog .slice (Builtin.append_ #[T.sl_uint8, T.sl_uint8] T.sl_uint8 #[(.slice v_8.a v_8.n v_8.c), (.slice v_6.a v_6.n v_6.c)]) (fun (v_9 : Sl) (h : Heap) =>
  R (.slice v_9.a v_9.n v_9.c) h) h) h)))))))
def ref25_Disk_Bytes.ann : Ann := (.seq .leaf (.seq (.any (.loc 1 (.loc 2 (.loc 3 (.loc 6 (.loc 7 (.loc 8 (.st 4 3104 (.st 9 3072 (.last 0 (.last 5 (.last 10 (.loc 11 .done))))))))))))) .leaf))
theorem ref25_Disk_Bytes.eq (d0 : Option Addr) (R : Value → Heap → Prop) (h : Heap) : ref25_Disk_Bytes.body d0 R h = evFn Try.prog Try.f37 ref25_Disk_Bytes.ann [(.pointer d0)] R h := by kernel_rfl
theorem ref25_Disk_Bytes.calls {d0 : Option Addr} {R : Value → Heap → Prop} {h : Heap} (H : ref25_Disk_Bytes.body d0 R h) : HC Try.prog F.ref25_Disk_Bytes #[(.pointer d0)] R h :=
  evFn_sound mixed Try.func37 (by kernel_rfl) (ref25_Disk_Bytes.eq d0 R h ▸ H)

/-! zugzwang/zugzwangkit.OverBytes -/
def kit_OverBytes.body (out0 : Sl) (R : Value → Heap → Prop) (h : Heap) : Prop :=
  sliceK out0 none (some (if (IntKind.i64.wrap (((out0.n : Int)) + 12)) < ((out0.c : Int)) then (IntKind.i64.wrap (((out0.n : Int)) + 12)) else ((out0.c : Int)))) none (sizeOfT Try.prog T.uint8) (fun (v_1 : Sl) =>
  loopW (fun X_3 (s_2 : Int) (h : Heap) =>
  if (decide (s_2 < ((v_1.n : Int)))) = true then
  callK Try.prog (.int .u8) F.kit_markByte #[(.int .i64 2), (.int .i64 s_2)] (fun (v_4 : Int) (h : Heap) =>
  idxK v_1 s_2 (sizeOfT Try.prog T.uint8) (fun (a_5 : Addr) =>
  storeK h ((some a_5)) (.int .u8 v_4) (fun (h : Heap) =>
  X_3 (IntKind.i64.wrap (s_2 + 1)) h))) h
  else
  R (.tuple #[]) h) 0 h)
def kit_OverBytes.ann : Ann := (.seq .leaf (.seq .leaf (.block (.loop [(3, (.int .i64))] (.seq (.seq .leaf (.cond .leaf .leaf)) (.seq (.block .leaf) .leaf))))))
theorem kit_OverBytes.eq (out0 : Sl) (R : Value → Heap → Prop) (h : Heap) : kit_OverBytes.body out0 R h = evFn Try.prog Try.f38 kit_OverBytes.ann [(.slice out0.a out0.n out0.c)] R h := by kernel_rfl
theorem kit_OverBytes.calls {out0 : Sl} {R : Value → Heap → Prop} {h : Heap} (H : kit_OverBytes.body out0 R h) : HC Try.prog F.kit_OverBytes #[(.slice out0.a out0.n out0.c)] R h :=
  evFn_sound mixed Try.func38 (by kernel_rfl) (kit_OverBytes.eq out0 R h ▸ H)

/-! zugzwang/zugzwanglaw25.same -/
def law25_same.body (d0 : Option Addr) (r1 : Option Addr) (R : Value → Heap → Prop) (h : Heap) : Prop :=
  callK Try.prog .slice F.disk_Disk_Bytes #[(.pointer d0)] (fun (v_1 : Sl) (h : Heap) =>
  joinW (fun (s_2 : Bool) (h : Heap) =>
  callK Try.prog .unit F.kit_OverBytes #[(.slice v_1.a v_1.n v_1.c)] (fun (v_3 : Unit) (h : Heap) =>
  if s_2 = true then
  callK Try.prog .slice F.disk_Disk_Bytes #[(.pointer d0)] (fun (v_4 : Sl) (h : Heap) =>
  callK Try.prog .slice F.ref25_Disk_Bytes #[(.pointer r1)] (fun (v_5 : Sl) (h : Heap) =>
  callK Try.prog .bool F.kit_SameBytes #[(.slice v_4.a v_4.n v_4.c), (.slice v_5.a v_5.n v_5.c)] (fun (v_6 : Bool) (h : Heap) =>
  R (.bool v_6) h) h) h) h
  else
  R (.bool false) h) h)
  (fun J_7 =>
  callK Try.prog .slice F.ref25_Disk_Bytes #[(.pointer r1)] (fun (v_8 : Sl) (h : Heap) =>
  callK Try.prog .bool F.kit_SameBytes #[(.slice v_1.a v_1.n v_1.c), (.slice v_8.a v_8.n v_8.c)] (fun (v_9 : Bool) (h : Heap) =>
  if v_9 = true then
  derefK r1 (fun (a_10 : Addr) =>
  fldK ((some a_10)) 0 (fun (a_11 : Addr) =>
  derefK r1 (fun (a_12 : Addr) =>
  fldK ((some a_12)) 1 (fun (a_13 : Addr) =>
  loadK .slice h ((some a_11)) (fun (v_14 : Sl) =>
  loadK .slice h ((some a_13)) (fun (v_15 : Sl) =>
  callK Try.prog (.int .i64) F.disk_Disk_Len #[(.pointer d0)] (fun (v_16 : Int) (h : Heap) =>
  stillK .slice h ((some a_13)) v_15 ∧
  stillK .slice h ((some a_11)) v_14 ∧
  if (v_16 == (IntKind.i64.wrap (((v_14.n : Int)) + ((v_15.n : Int))))) = true then
  derefK r1 (fun (a_17 : Addr) =>
  fldK ((some a_17)) 0 (fun (a_18 : Addr) =>
  loadK .slice h ((some a_18)) (fun (v_19 : Sl) =>
  callK Try.prog (.int .i64) F.disk_Disk_Synced #[(.pointer d0)] (fun (v_20 : Int) (h : Heap) =>
  stillK .slice h ((some a_18)) v_19 ∧
  J_7 (v_20 == ((v_19.n : Int))) h) h)))
  else
  J_7 false h) h))))))
  else
  J_7 false h) h) h)) h
def law25_same.ann : Ann := (.seq .leaf (.seq .leaf (.join [(6, .bool)] (.any (.loc 0 (.loc 1 (.last 2 (.last 3 (.loc 4 (.locA 5 (.loc 7 (.loc 8 (.loc 9 (.loc 12 (.loc 13 (.loc 14 (.st 10 2147354624 (.loc 11 (.st 15 2147418112 (.loc 16 (.loc 17 (.last 6 (.loc 18 (.loc 19 (.loc 20 (.locA 21 (.loc 23 (.loc 24 (.loc 25 (.st 26 2013265920 (.loc 27 (.last 22 (.loc 28 (.loc 29 (.loc 30 .done))))))))) (.loc 22 (.loc 23 (.loc 24 (.loc 25 (.loc 26 (.loc 27 (.loc 28 (.loc 29 (.loc 30 .done))))))))))))))))))))))))) (.loc 6 (.loc 7 (.loc 8 (.loc 9 (.loc 10 (.loc 11 (.loc 12 (.loc 13 (.loc 14 (.loc 15 (.loc 16 (.loc 17 (.loc 18 (.loc 19 (.loc 20 (.loc 21 (.loc 22 (.loc 23 (.loc 24 (.loc 25 (.loc 26 (.loc 27 (.loc 28 (.loc 29 (.loc 30 .done)))))))))))))))))))))))))))))))) (.seq .leaf (.seq .leaf .leaf)))))
theorem law25_same.eq (d0 : Option Addr) (r1 : Option Addr) (R : Value → Heap → Prop) (h : Heap) : law25_same.body d0 r1 R h = evFn Try.prog Try.f24 law25_same.ann [(.pointer d0), (.pointer r1)] R h := by kernel_rfl
theorem law25_same.calls {d0 : Option Addr} {r1 : Option Addr} {R : Value → Heap → Prop} {h : Heap} (H : law25_same.body d0 r1 R h) : HC Try.prog F.law25_same #[(.pointer d0), (.pointer r1)] R h :=
  evFn_sound mixed Try.func24 (by kernel_rfl) (law25_same.eq d0 r1 R h ▸ H)

/-! (*zugzwang/zugzwangref25.Disk).Write -/
def ref25_Disk_Write.body (d0 : Option Addr) (rows1 : Sl) (R : Value → Heap → Prop) (h : Heap) : Prop :=
  callK Try.prog .slice F.ref25_Join #[(.slice rows1.a rows1.n rows1.c)] (fun (v_1 : Sl) (h : Heap) =>
  derefK d0 (fun (a_2 : Addr) =>
  fldK ((some a_2)) 0 (fun (a_3 : Addr) =>
  loadK .slice h ((some a_3)) (fun (v_4 : Sl) =>
  derefK d0 (fun (a_5 : Addr) =>
  fldK ((some a_5)) 1 (fun (a_6 : Addr) =>
  loadK .slice h ((some a_6)) (fun (v_7 : Sl) =>
  if (decide ((IntKind.i64.wrap ((IntKind.i64.wrap (((v_4.n : Int)) + ((v_7.n : Int)))) + ((v_1.n : Int)))) > 1048576)) = true then
  R (.int .i64 3) h
  else
  newSlK h 0 #[] T.uint8 (fun (v_8 : Sl) (h : Heap) =>
  derefK d0 (fun (a_9 : Addr) =>
  fldK ((some a_9)) 1 (fun (a_10 : Addr) =>
  loadK .slice h ((some a_10)) (fun (v_11 : Sl) =>
  opK Try.prog .slice (Builtin.append_ #[T.sl_uint8, T.sl_uint8] T.sl_uint8 #[(.slice v_8.a v_8.n v_8.c), (.slice v_11.a v_11.n v_11.c)]) (fun (v_12 : Sl) (h : Heap) =>
  opK Try.prog .slice (Builtin.append_ #[T.sl_uint8, T.sl_uint8] T.sl_uint8 #[(.slice v_12.a v_12.n v_12.c), (.slice v_1.a v_1.n v_1.c)]) (fun (v_13 : Sl) (h : Heap) =>
  derefK d0 (fun (a_14 : Addr) =>
  fldK ((some a_14)) 1 (fun (a_15 : Addr) =>
  storeK h ((some a_15)) (.slice v_13.a v_13.n v_13.c) (fun (h : Heap) =>
  R (.int .i64 0) h)))) h) h))))))))))) h
def ref25_Disk_Write.ann : Ann := (.seq .leaf (.seq .leaf (.seq (.seq .leaf (.cond (.seq .leaf .leaf) .leaf)) (.seq .leaf (.seq .leaf .leaf)))))
theorem ref25_Disk_Write.eq (d0 : Option Addr) (rows1 : Sl) (R : Value → Heap → Prop) (h : Heap) : ref25_Disk_Write.body d0 rows1 R h = evFn Try.prog Try.f25 ref25_Disk_Write.ann [(.pointer d0), (.slice rows1.a rows1.n rows1.c)] R h := by kernel_rfl
theorem ref25_Disk_Write.calls {d0 : Option Addr} {rows1 : Sl} {R : Value → Heap → Prop} {h : Heap} (H : ref25_Disk_Write.body d0 rows1 R h) : HC Try.prog F.ref25_Disk_Write #[(.pointer d0), (.slice rows1.a rows1.n rows1.c)] R h :=
  evFn_sound mixed Try.func25 (by kernel_rfl) (ref25_Disk_Write.eq d0 rows1 R h ▸ H)

/-! (*zugzwang/zugzwangref25.Disk).Fall -/
def ref25_Disk_Fall.body (d0 : Option Addr) (keep1 : Int) (R : Value → Heap → Prop) (h : Heap) : Prop :=
  derefK d0 (fun (a_1 : Addr) =>
  fldK ((some a_1)) 0 (fun (a_2 : Addr) =>
  derefK d0 (fun (a_3 : Addr) =>
  fldK ((some a_3)) 1 (fun (a_4 : Addr) =>
  derefK d0 (fun (a_5 : Addr) =>
  fldK ((some a_5)) 1 (fun (a_6 : Addr) =>
  loadK .slice h ((some a_2)) (fun (v_7 : Sl) =>
  loadK .slice h ((some a_4)) (fun (v_8 : Sl) =>
  loadK .slice h ((some a_6)) (fun (v_9 : Sl) =>
  sliceK v_8 none (some (if ((v_9.n : Int)) < (if keep1 < 0 then 0 else keep1) then ((v_9.n : Int)) else (if keep1 < 0 then 0 else keep1))) none (sizeOfT Try.prog T.uint8) (fun (v_10 : Sl) =>
  newSlK h 0 #[] T.uint8 (fun (v_11 : Sl) (h : Heap) =>
  opK Try.prog .slice (Builtin.append_ #[T.sl_uint8, T.sl_uint8] T.sl_uint8 #[(.slice v_11.a v_11.n v_11.c), (.slice v_7.a v_7.n v_7.c)]) (fun (v_12 : Sl) (h : Heap) =>
  stillK .slice h ((some a_6)) v_9 ∧
  stillK .slice h ((some a_4)) v_8 ∧
  opK Try.prog .slice (Builtin.append_ #[T.sl_uint8, T.sl_uint8] T.sl_uint8 #[(.slice v_12.a v_12.n v_12.c), (.slice v_10.a v_10.n v_10.c)]) (fun (v_13 : Sl) (h : Heap) =>
  derefK d0 (fun (a_14 : Addr) =>
  fldK ((some a_14)) 0 (fun (a_15 : Addr) =>
  storeK h ((some a_15)) (.slice v_13.a v_13.n v_13.c) (fun (h : Heap) =>
  derefK d0 (fun (a_16 : Addr) =>
  fldK ((some a_16)) 1 (fun (a_17 : Addr) =>
  storeK h ((some a_17)) (.slice none 0 0) (fun (h : Heap) =>
  R (.tuple #[]) h))))))) h) h)))))))))))
def ref25_Disk_Fall.ann : Ann := (.seq (.any (.loc 0 (.loc 2 (.loc 3 (.loc 4 (.loc 7 (.loc 8 (.loc 9 (.loc 11 (.loc 12 (.loc 13 (.loc 14 (.loc 15 (.st 5 15728704 (.st 10 16252928 (.st 16 16646144 (.loc 17 (.loc 18 (.loc 19 (.last 1 (.last 6 (.last 20 (.loc 21 (.loc 22 (.last 23 .done))))))))))))))))))))))))) .leaf)
theorem ref25_Disk_Fall.eq (d0 : Option Addr) (keep1 : Int) (R : Value → Heap → Prop) (h : Heap) : ref25_Disk_Fall.body d0 keep1 R h = evFn Try.prog Try.f27 ref25_Disk_Fall.ann [(.pointer d0), (.int .i64 keep1)] R h := by kernel_rfl
theorem ref25_Disk_Fall.calls {d0 : Option Addr} {keep1 : Int} {R : Value → Heap → Prop} {h : Heap} (H : ref25_Disk_Fall.body d0 keep1 R h) : HC Try.prog F.ref25_Disk_Fall #[(.pointer d0), (.int .i64 keep1)] R h :=
  evFn_sound mixed Try.func27 (by kernel_rfl) (ref25_Disk_Fall.eq d0 keep1 R h ▸ H)

/-! (*zugzwang/zugzwangref25.Disk).Sync -/
def ref25_Disk_Sync.body (d0 : Option Addr) (R : Value → Heap → Prop) (h : Heap) : Prop :=
  derefK d0 (fun (a_1 : Addr) =>
  fldK ((some a_1)) 1 (fun (a_2 : Addr) =>
  loadK .slice h ((some a_2)) (fun (v_3 : Sl) =>
  callK Try.prog .unit F.ref25_Disk_Fall #[(.pointer d0), (.int .i64 ((v_3.n : Int)))] (fun (v_4 : Unit) (h : Heap) =>
  R (.tuple #[]) h) h)))
def ref25_Disk_Sync.ann : Ann := .leaf
theorem ref25_Disk_Sync.eq (d0 : Option Addr) (R : Value → Heap → Prop) (h : Heap) : ref25_Disk_Sync.body d0 R h = evFn Try.prog Try.f26 ref25_Disk_Sync.ann [(.pointer d0)] R h := by kernel_rfl
theorem ref25_Disk_Sync.calls {d0 : Option Addr} {R : Value → Heap → Prop} {h : Heap} (H : ref25_Disk_Sync.body d0 R h) : HC Try.prog F.ref25_Disk_Sync #[(.pointer d0)] R h :=
  evFn_sound mixed Try.func26 (by kernel_rfl) (ref25_Disk_Sync.eq d0 R h ▸ H)

/-! (*zugzwang/zugzwangref25.Disk).Cut -/
def ref25_Disk_Cut.body (d0 : Option Addr) (n1 : Int) (R : Value → Heap → Prop) (h : Heap) : Prop :=
  if (decide (n1 < 0)) = true then
  R (.int .i64 6) h
  else
  derefK d0 (fun (a_1 : Addr) =>
  fldK ((some a_1)) 0 (fun (a_2 : Addr) =>
  loadK .slice h ((some a_2)) (fun (v_3 : Sl) =>
  derefK d0 (fun (a_4 : Addr) =>
  fldK ((some a_4)) 1 (fun (a_5 : Addr) =>
  loadK .slice h ((some a_5)) (fun (v_6 : Sl) =>
  if (decide (n1 > (IntKind.i64.wrap (((v_3.n : Int)) + ((v_6.n : Int)))))) = true then
  R (.int .i64 6) h
  else
  callK Try.prog .slice F.ref25_Disk_Bytes #[(.pointer d0)] (fun (v_7 : Sl) (h : Heap) =>
  sliceK v_7 none (some n1) none (sizeOfT Try.prog T.uint8) (fun (v_8 : Sl) =>
  derefK d0 (fun (a_9 : Addr) =>
  fldK ((some a_9)) 0 (fun (a_10 : Addr) =>
  storeK h ((some a_10)) (.slice v_8.a v_8.n v_8.c) (fun (h : Heap) =>
  derefK d0 (fun (a_11 : Addr) =>
  fldK ((some a_11)) 1 (fun (a_12 : Addr) =>
  storeK h ((some a_12)) (.slice none 0 0) (fun (h : Heap) =>
  R (.int .i64 0) h)))))))) h))))))
def ref25_Disk_Cut.ann : Ann := (.seq .leaf (.seq (.seq .leaf (.cond (.seq .leaf .leaf) .leaf)) (.seq .leaf (.seq .leaf (.seq .leaf .leaf)))))
theorem ref25_Disk_Cut.eq (d0 : Option Addr) (n1 : Int) (R : Value → Heap → Prop) (h : Heap) : ref25_Disk_Cut.body d0 n1 R h = evFn Try.prog Try.f28 ref25_Disk_Cut.ann [(.pointer d0), (.int .i64 n1)] R h := by kernel_rfl
theorem ref25_Disk_Cut.calls {d0 : Option Addr} {n1 : Int} {R : Value → Heap → Prop} {h : Heap} (H : ref25_Disk_Cut.body d0 n1 R h) : HC Try.prog F.ref25_Disk_Cut #[(.pointer d0), (.int .i64 n1)] R h :=
  evFn_sound mixed Try.func28 (by kernel_rfl) (ref25_Disk_Cut.eq d0 n1 R h ▸ H)

/-! zugzwang/zugzwanglaw25.DiskDoes -/
def law25_DiskDoes.body (rows0 : Sl) (l1 : Sl) (R : Value → Heap → Prop) (h : Heap) : Prop :=
  callK Try.prog (.int .i64) F.law25_size #[(.slice l1.a l1.n l1.c)] (fun (v_1 : Int) (h : Heap) =>
  buildK Try.prog (Instr.build T.zugzwanglaw25_Deed #[(2, (.slice rows0.a rows0.n rows0.c))]) (fun (v_2 : Array Value) =>
  opK Try.prog .slice (Instr.buildSlice T.sl_zugzwanglaw25_Deed 1 #[(0, (.agg v_2))]) (fun (v_3 : Sl) (h : Heap) =>
  callK Try.prog (.int .i64) F.law25_size #[(.slice v_3.a v_3.n v_3.c)] (fun (v_4 : Int) (h : Heap) =>
  if (decide ((IntKind.i64.wrap (v_1 + v_4)) > 2000)) = true then
  callK Try.prog .bool F.law25_awake #[] (fun (v_5 : Bool) (h : Heap) =>
  R (.bool v_5) h) h
  else
  callK Try.prog .slice F.kit_LentByteRows #[(.slice rows0.a rows0.n rows0.c)] (fun (v_6 : Sl) (h : Heap) =>
  callK Try.prog (Kd.pair .ptr (.int .i64)) F.disk_New #[(.slice v_6.a v_6.n v_6.c)] (fun (v_7 : Option Addr × Int) (h : Heap) =>
  callK Try.prog (Kd.pair .ptr (.int .i64)) F.ref25_New #[(.slice rows0.a rows0.n rows0.c)] (fun (v_8 : Option Addr × Int) (h : Heap) =>
  if (v_7.2 != v_8.2) = true then
  R (.bool false) h
  else
  callK Try.prog .bool F.kit_KeptByteRows #[(.slice v_6.a v_6.n v_6.c), (.slice rows0.a rows0.n rows0.c)] (fun (v_9 : Bool) (h : Heap) =>
  if (!v_9) = true then
  R (.bool false) h
  else
  callK Try.prog .bool F.law25_same #[(.pointer v_7.1), (.pointer v_8.1)] (fun (v_10 : Bool) (h : Heap) =>
  if (!v_10) = true then
  R (.bool false) h
  else
  loopW (fun X_12 (s_11 : Option Addr × Int) (h : Heap) =>
  if (decide (s_11.2 < ((l1.n : Int)))) = true then
  idxK l1 s_11.2 (sizeOfT Try.prog T.zugzwanglaw25_Deed) (fun (a_13 : Addr) =>
  fldK ((some a_13)) 2 (fun (a_14 : Addr) =>
  loadK .slice h ((some a_14)) (fun (v_15 : Sl) =>
  callK Try.prog .slice F.kit_LentByteRows #[(.slice v_15.a v_15.n v_15.c)] (fun (v_16 : Sl) (h : Heap) =>
  joinW (fun (s_17 : Option Addr × Bool) (h : Heap) =>
  if (!s_17.2) = true then
  R (.bool false) h
  else
  idxK l1 s_11.2 (sizeOfT Try.prog T.zugzwanglaw25_Deed) (fun (a_18 : Addr) =>
  fldK ((some a_18)) 2 (fun (a_19 : Addr) =>
  loadK .slice h ((some a_19)) (fun (v_20 : Sl) =>
  callK Try.prog .bool F.kit_KeptByteRows #[(.slice v_16.a v_16.n v_16.c), (.slice v_20.a v_20.n v_20.c)] (fun (v_21 : Bool) (h : Heap) =>
  if (!v_21) = true then
  R (.bool false) h
  else
  callK Try.prog .bool F.law25_same #[(.pointer s_17.1), (.pointer v_8.1)] (fun (v_22 : Bool) (h : Heap) =>
  if (!v_22) = true then
  R (.bool false) h
  else
  X_12 (s_17.1, IntKind.i64.wrap (s_11.2 + 1)) h) h) h))))
  (fun J_23 =>
  idxK l1 s_11.2 (sizeOfT Try.prog T.zugzwanglaw25_Deed) (fun (a_24 : Addr) =>
  fldK ((some a_24)) 0 (fun (a_25 : Addr) =>
  loadK (.int .i64) h ((some a_25)) (fun (v_26 : Int) =>
  callK Try.prog (.int .i64) F.kit_Pick #[(.int .i64 v_26), (.int .i64 5)] (fun (v_27 : Int) (h : Heap) =>
  if (v_27 == 0) = true then
  idxK l1 s_11.2 (sizeOfT Try.prog T.zugzwanglaw25_Deed) (fun (a_28 : Addr) =>
  fldK ((some a_28)) 2 (fun (a_29 : Addr) =>
  loadK .slice h ((some a_29)) (fun (v_30 : Sl) =>
  callK Try.prog (.int .i64) F.disk_Disk_Write #[(.pointer s_11.1), (.slice v_16.a v_16.n v_16.c)] (fun (v_31 : Int) (h : Heap) =>
  stillK .slice h ((some a_29)) v_30 ∧
  callK Try.prog (.int .i64) F.ref25_Disk_Write #[(.pointer v_8.1), (.slice v_30.a v_30.n v_30.c)] (fun (v_32 : Int) (h : Heap) =>
  J_23 (s_11.1, v_31 == v_32) h) h) h)))
  else
  if (v_27 == 1) = true then
  callK Try.prog (.int .i64) F.disk_Disk_Sync #[(.pointer s_11.1)] (fun (v_33 : Int) (h : Heap) =>
  callK Try.prog .unit F.ref25_Disk_Sync #[(.pointer v_8.1)] (fun (v_34 : Unit) (h : Heap) =>
  J_23 (s_11.1, v_33 == 0) h) h) h
  else
  if (v_27 == 2) = true then
  idxK l1 s_11.2 (sizeOfT Try.prog T.zugzwanglaw25_Deed) (fun (a_35 : Addr) =>
  fldK ((some a_35)) 1 (fun (a_36 : Addr) =>
  loadK (.int .i64) h ((some a_36)) (fun (v_37 : Int) =>
  callK Try.prog (.int .i64) F.disk_Disk_Fall #[(.pointer s_11.1), (.int .i64 v_37)] (fun (v_38 : Int) (h : Heap) =>
  idxK l1 s_11.2 (sizeOfT Try.prog T.zugzwanglaw25_Deed) (fun (a_39 : Addr) =>
  fldK ((some a_39)) 1 (fun (a_40 : Addr) =>
  loadK (.int .i64) h ((some a_40)) (fun (v_41 : Int) =>
  callK Try.prog .unit F.ref25_Disk_Fall #[(.pointer v_8.1), (.int .i64 v_41)] (fun (v_42 : Unit) (h : Heap) =>
  J_23 (s_11.1, v_38 == 0) h) h)))) h)))
  else
  if (v_27 == 3) = true then
  idxK l1 s_11.2 (sizeOfT Try.prog T.zugzwanglaw25_Deed) (fun (a_43 : Addr) =>
  fldK ((some a_43)) 1 (fun (a_44 : Addr) =>
  idxK l1 s_11.2 (sizeOfT Try.prog T.zugzwanglaw25_Deed) (fun (a_45 : Addr) =>
  fldK ((some a_45)) 1 (fun (a_46 : Addr) =>
  loadK (.int .i64) h ((some a_44)) (fun (v_47 : Int) =>
  loadK (.int .i64) h ((some a_46)) (fun (v_48 : Int) =>
  callK Try.prog (.int .i64) F.disk_Disk_Cut #[(.pointer s_11.1), (.int .i64 v_47)] (fun (v_49 : Int) (h : Heap) =>
  stillK (.int .i64) h ((some a_46)) v_48 ∧
  callK Try.prog (.int .i64) F.ref25_Disk_Cut #[(.pointer v_8.1), (.int .i64 v_48)] (fun (v_50 : Int) (h : Heap) =>
  J_23 (s_11.1, v_49 == v_50) h) h) h))))))
  else
  if (v_27 == 4) = true then
  callK Try.prog .ptr F.disk_Disk_Copy #[(.pointer s_11.1)] (fun (v_51 : Option Addr) (h : Heap) =>
  newSlK h 1 #[(.int .u8 9)] T.uint8 (fun (v_52 : Sl) (h : Heap) =>
  newSlK h 1 #[(.slice v_52.a v_52.n v_52.c)] T.sl_uint8 (fun (v_53 : Sl) (h : Heap) =>
  callK Try.prog (.int .i64) F.disk_Disk_Write #[(.pointer s_11.1), (.slice v_53.a v_53.n v_53.c)] (fun (v_54 : Int) (h : Heap) =>
  callK Try.prog (.int .i64) F.disk_Disk_Fall #[(.pointer s_11.1), (.int .i64 0)] (fun (v_55 : Int) (h : Heap) =>
  callK Try.prog (.int .i64) F.disk_Disk_Cut #[(.pointer s_11.1), (.int .i64 0)] (fun (v_56 : Int) (h : Heap) =>
  J_23 (v_51, true) h) h) h) h))) h
  else
  J_23 (s_11.1, true) h) h))))) h)))
  else
  callK Try.prog .bool F.law25_awake #[] (fun (v_57 : Bool) (h : Heap) =>
  R (.bool v_57) h) h) (v_7.1, 0) h) h) h) h) h) h) h) h)) h
def law25_DiskDoes.ann : Ann := (.seq .leaf (.seq (.seq .leaf (.cond (.seq .leaf .leaf) .leaf)) (.seq .leaf (.seq .leaf (.seq .leaf (.seq (.seq .leaf (.cond (.seq .leaf .leaf) .leaf)) (.seq (.seq .leaf (.block (.loop [(6, .ptr), (10, (.int .i64))] (.seq (.seq .leaf (.cond .leaf .leaf)) (.seq (.block (.seq .leaf (.seq .leaf (.join [(6, .ptr), (12, .bool)] (.seq .leaf (.block (.seq .leaf (.cond (.any (.loc 0 (.loc 1 (.loc 3 (.loc 4 (.loc 5 (.loc 6 (.loc 7 (.st 8 3584 (.last 2 (.last 9 (.loc 10 (.loc 11 .done))))))))))))) (.seq .leaf (.cond (.seq .leaf .leaf) (.seq .leaf (.cond (.seq .leaf .leaf) (.seq .leaf (.cond (.any (.loc 0 (.loc 1 (.loc 2 (.loc 3 (.loc 4 (.loc 7 (.loc 8 (.loc 9 (.loc 10 (.loc 11 (.st 5 57408 (.st 12 57344 (.last 6 (.last 13 (.loc 14 (.loc 15 .done))))))))))))))))) (.seq .leaf (.cond (.seq .leaf (.seq .leaf (.seq .leaf (.seq .leaf .leaf)))) .leaf)))))))))))) (.seq .leaf (.cond (.seq .leaf .leaf) .leaf)))))) .leaf))))) (.seq .leaf .leaf))))))))
theorem law25_DiskDoes.eq (rows0 : Sl) (l1 : Sl) (R : Value → Heap → Prop) (h : Heap) : law25_DiskDoes.body rows0 l1 R h = evFn Try.prog Try.f5 law25_DiskDoes.ann [(.slice rows0.a rows0.n rows0.c), (.slice l1.a l1.n l1.c)] R h := by kernel_rfl
theorem law25_DiskDoes.calls {rows0 : Sl} {l1 : Sl} {R : Value → Heap → Prop} {h : Heap} (H : law25_DiskDoes.body rows0 l1 R h) : HC Try.prog F.law25_DiskDoes #[(.slice rows0.a rows0.n rows0.c), (.slice l1.a l1.n l1.c)] R h :=
  evFn_sound mixed Try.func5 (by kernel_rfl) (law25_DiskDoes.eq rows0 l1 R h ▸ H)

/-! zugzwang/zugzwanglaw25.DiskSmall -/
def law25_DiskSmall.body  (R : Value → Heap → Prop) (h : Heap) : Prop :=
  newSlK h 9 #[(.int .i64 ((-9223372036854775808))), (.int .i64 ((-1))), (.int .i64 0), (.int .i64 1), (.int .i64 2), (.int .i64 3), (.int .i64 4), (.int .i64 5), (.int .i64 9223372036854775807)] T.int (fun (v_1 : Sl) (h : Heap) =>
  newSlK h 1 #[(.int .u8 1)] T.uint8 (fun (v_2 : Sl) (h : Heap) =>
  newSlK h 1 #[(.slice v_2.a v_2.n v_2.c)] T.sl_uint8 (fun (v_3 : Sl) (h : Heap) =>
  newSlK h 2 #[(.int .u8 2), (.int .u8 3)] T.uint8 (fun (v_4 : Sl) (h : Heap) =>
  newSlK h 1 #[(.int .u8 4)] T.uint8 (fun (v_5 : Sl) (h : Heap) =>
  newSlK h 3 #[(.slice v_4.a v_4.n v_4.c), (.slice none 0 0), (.slice v_5.a v_5.n v_5.c)] T.sl_uint8 (fun (v_6 : Sl) (h : Heap) =>
  newSlK h 1 #[(.slice none 0 0)] T.sl_uint8 (fun (v_7 : Sl) (h : Heap) =>
  newSlK h 4 #[(.slice none 0 0), (.slice v_3.a v_3.n v_3.c), (.slice v_6.a v_6.n v_6.c), (.slice v_7.a v_7.n v_7.c)] T.sl_sl_uint8 (fun (v_8 : Sl) (h : Heap) =>
  loopW (fun X_10 (s_9 : Int) (h : Heap) =>
  if (decide (s_9 < 2500)) = true then
  divK 5
  (divK 9
  (idxK v_1 (Int.tmod s_9 9) (sizeOfT Try.prog T.int) (fun (a_11 : Addr) =>
  divK 4
  (idxK v_8 (Int.tmod s_9 4) (sizeOfT Try.prog T.sl_sl_uint8) (fun (a_12 : Addr) =>
  divK 5
  (divK 5
  (divK 4
  (divK 9
  (idxK v_1 (Int.tmod (IntKind.i64.wrap (Int.tdiv s_9 4)) 9) (sizeOfT Try.prog T.int) (fun (a_13 : Addr) =>
  idxK v_8 2 (sizeOfT Try.prog T.sl_sl_uint8) (fun (a_14 : Addr) =>
  divK 25
  (divK 5
  (divK 7
  (divK 9
  (idxK v_1 (Int.tmod (IntKind.i64.wrap (Int.tdiv s_9 7)) 9) (sizeOfT Try.prog T.int) (fun (a_15 : Addr) =>
  divK 3
  (divK 4
  (idxK v_8 (Int.tmod (IntKind.i64.wrap (Int.tdiv s_9 3)) 4) (sizeOfT Try.prog T.sl_sl_uint8) (fun (a_16 : Addr) =>
  divK 125
  (divK 5
  (divK 11
  (divK 9
  (idxK v_1 (Int.tmod (IntKind.i64.wrap (Int.tdiv s_9 11)) 9) (sizeOfT Try.prog T.int) (fun (a_17 : Addr) =>
  idxK v_8 1 (sizeOfT Try.prog T.sl_sl_uint8) (fun (a_18 : Addr) =>
  divK 13
  (divK 9
  (idxK v_1 (Int.tmod (IntKind.i64.wrap (Int.tdiv s_9 13)) 9) (sizeOfT Try.prog T.int) (fun (a_19 : Addr) =>
  loadK (.int .i64) h ((some a_11)) (fun (v_20 : Int) =>
  loadK .slice h ((some a_12)) (fun (v_21 : Sl) =>
  buildK Try.prog (Instr.build T.zugzwanglaw25_Deed #[(0, (.int .i64 (Int.tmod s_9 5))), (1, (.int .i64 v_20)), (2, (.slice v_21.a v_21.n v_21.c))]) (fun (v_22 : Array Value) =>
  loadK (.int .i64) h ((some a_13)) (fun (v_23 : Int) =>
  loadK .slice h ((some a_14)) (fun (v_24 : Sl) =>
  buildK Try.prog (Instr.build T.zugzwanglaw25_Deed #[(0, (.int .i64 (Int.tmod (IntKind.i64.wrap (Int.tdiv s_9 5)) 5))), (1, (.int .i64 v_23)), (2, (.slice v_24.a v_24.n v_24.c))]) (fun (v_25 : Array Value) =>
  loadK (.int .i64) h ((some a_15)) (fun (v_26 : Int) =>
  loadK .slice h ((some a_16)) (fun (v_27 : Sl) =>
  buildK Try.prog (Instr.build T.zugzwanglaw25_Deed #[(0, (.int .i64 (Int.tmod (IntKind.i64.wrap (Int.tdiv s_9 25)) 5))), (1, (.int .i64 v_26)), (2, (.slice v_27.a v_27.n v_27.c))]) (fun (v_28 : Array Value) =>
  loadK (.int .i64) h ((some a_17)) (fun (v_29 : Int) =>
  loadK .slice h ((some a_18)) (fun (v_30 : Sl) =>
  buildK Try.prog (Instr.build T.zugzwanglaw25_Deed #[(0, (.int .i64 (Int.tmod (IntKind.i64.wrap (Int.tdiv s_9 125)) 5))), (1, (.int .i64 v_29)), (2, (.slice v_30.a v_30.n v_30.c))]) (fun (v_31 : Array Value) =>
  loadK (.int .i64) h ((some a_19)) (fun (v_32 : Int) =>
  buildK Try.prog (Instr.build T.zugzwanglaw25_Deed #[(0, (.int .i64 2)), (1, (.int .i64 v_32))]) (fun (v_33 : Array Value) =>
  opK Try.prog .slice (Instr.buildSlice T.sl_zugzwanglaw25_Deed 5 #[(0, (.agg v_22)), (1, (.agg v_25)), (2, (.agg v_28)), (3, (.agg v_31)), (4, (.agg v_33))]) (fun (v_34 : Sl) (h : Heap) =>
  divK 6
  (divK 4
  (idxK v_8 (Int.tmod (IntKind.i64.wrap (Int.tdiv s_9 6)) 4) (sizeOfT Try.prog T.sl_sl_uint8) (fun (a_35 : Addr) =>
  loadK .slice h ((some a_35)) (fun (v_36 : Sl) =>
  callK Try.prog .bool F.law25_DiskDoes #[(.slice v_36.a v_36.n v_36.c), (.slice v_34.a v_34.n v_34.c)] (fun (v_37 : Bool) (h : Heap) =>
  if (!v_37) = true then
  R (.bool false) h
  else
  X_10 (IntKind.i64.wrap (s_9 + 1)) h) h))))) h))))))))))))))))))))))))))))))))))))))))))
  else
  opK Try.prog .slice (Instr.makeSlice T.sl_uint8 (.int .i64 1048576) (.int .i64 1048576)) (fun (v_38 : Sl) (h : Heap) =>
  newSlK h 2 #[(.slice v_38.a v_38.n v_38.c), (.slice none 0 0)] T.sl_uint8 (fun (v_39 : Sl) (h : Heap) =>
  callK Try.prog (Kd.pair .ptr (.int .i64)) F.disk_New #[(.slice v_39.a v_39.n v_39.c)] (fun (v_40 : Option Addr × Int) (h : Heap) =>
  newSlK h 1 #[(.int .u8 1)] T.uint8 (fun (v_41 : Sl) (h : Heap) =>
  newSlK h 2 #[(.slice v_38.a v_38.n v_38.c), (.slice v_41.a v_41.n v_41.c)] T.sl_uint8 (fun (v_42 : Sl) (h : Heap) =>
  callK Try.prog (Kd.pair .ptr (.int .i64)) F.disk_New #[(.slice v_42.a v_42.n v_42.c)] (fun (v_43 : Option Addr × Int) (h : Heap) =>
  if (v_40.2 != 0) = true then
  R (.bool false) h
  else
  if (v_43.2 != 3) = true then
  R (.bool false) h
  else
  callK Try.prog (.int .i64) F.disk_Disk_Write #[(.pointer v_40.1), (.slice none 0 0)] (fun (v_44 : Int) (h : Heap) =>
  if (v_44 != 0) = true then
  R (.bool false) h
  else
  newSlK h 1 #[(.int .u8 1)] T.uint8 (fun (v_45 : Sl) (h : Heap) =>
  newSlK h 1 #[(.slice v_45.a v_45.n v_45.c)] T.sl_uint8 (fun (v_46 : Sl) (h : Heap) =>
  callK Try.prog (.int .i64) F.disk_Disk_Write #[(.pointer v_40.1), (.slice v_46.a v_46.n v_46.c)] (fun (v_47 : Int) (h : Heap) =>
  if (v_47 != 3) = true then
  R (.bool false) h
  else
  callK Try.prog (.int .i64) F.disk_Disk_Len #[(.pointer v_40.1)] (fun (v_48 : Int) (h : Heap) =>
  if (v_48 != 1048576) = true then
  R (.bool false) h
  else
  callK Try.prog (.int .i64) F.disk_Disk_Cut #[(.pointer v_40.1), (.int .i64 1048575)] (fun (v_49 : Int) (h : Heap) =>
  if (v_49 != 0) = true then
  R (.bool false) h
  else
  newSlK h 1 #[(.int .u8 1)] T.uint8 (fun (v_50 : Sl) (h : Heap) =>
  newSlK h 2 #[(.slice v_50.a v_50.n v_50.c), (.slice none 0 0)] T.sl_uint8 (fun (v_51 : Sl) (h : Heap) =>
  callK Try.prog (.int .i64) F.disk_Disk_Write #[(.pointer v_40.1), (.slice v_51.a v_51.n v_51.c)] (fun (v_52 : Int) (h : Heap) =>
  if (v_52 != 0) = true then
  R (.bool false) h
  else
  newSlK h 1 #[(.int .u8 1)] T.uint8 (fun (v_53 : Sl) (h : Heap) =>
  newSlK h 2 #[(.slice none 0 0), (.slice v_53.a v_53.n v_53.c)] T.sl_uint8 (fun (v_54 : Sl) (h : Heap) =>
  callK Try.prog (.int .i64) F.disk_Disk_Write #[(.pointer v_40.1), (.slice v_54.a v_54.n v_54.c)] (fun (v_55 : Int) (h : Heap) =>
  if (v_55 != 3) = true then
  R (.bool false) h
  else
  callK Try.prog (.int .i64) F.disk_Disk_Fall #[(.pointer v_40.1), (.int .i64 0)] (fun (v_56 : Int) (h : Heap) =>
  if (v_56 != 0) = true then
  R (.bool false) h
  else
  callK Try.prog (.int .i64) F.disk_Disk_Len #[(.pointer v_40.1)] (fun (v_57 : Int) (h : Heap) =>
  if (v_57 != 1048575) = true then
  R (.bool false) h
  else
  buildK Try.prog (Instr.build T.disk_Disk #[]) (fun (v_58 : Array Value) =>
  newK h v_58 T.disk_Disk (fun (v_59 : Option Addr) (h : Heap) =>
  newSlK h 2 #[(.pointer none), (.pointer v_59)] T.p_disk_Disk (fun (v_60 : Sl) (h : Heap) =>
  loopW (fun X_62 (s_61 : Int) (h : Heap) =>
  if (decide (s_61 < 2)) = true then
  idxK v_60 s_61 (sizeOfT Try.prog T.p_disk_Disk) (fun (a_63 : Addr) =>
  loadK .ptr h ((some a_63)) (fun (v_64 : Option Addr) =>
  callK Try.prog (.int .i64) F.disk_Disk_Write #[(.pointer v_64), (.slice none 0 0)] (fun (v_65 : Int) (h : Heap) =>
  if (v_65 != 1) = true then
  R (.bool false) h
  else
  idxK v_60 s_61 (sizeOfT Try.prog T.p_disk_Disk) (fun (a_66 : Addr) =>
  loadK .ptr h ((some a_66)) (fun (v_67 : Option Addr) =>
  callK Try.prog (.int .i64) F.disk_Disk_Sync #[(.pointer v_67)] (fun (v_68 : Int) (h : Heap) =>
  if (v_68 != 1) = true then
  R (.bool false) h
  else
  idxK v_60 s_61 (sizeOfT Try.prog T.p_disk_Disk) (fun (a_69 : Addr) =>
  loadK .ptr h ((some a_69)) (fun (v_70 : Option Addr) =>
  callK Try.prog (.int .i64) F.disk_Disk_Fall #[(.pointer v_70), (.int .i64 0)] (fun (v_71 : Int) (h : Heap) =>
  if (v_71 != 1) = true then
  R (.bool false) h
  else
  idxK v_60 s_61 (sizeOfT Try.prog T.p_disk_Disk) (fun (a_72 : Addr) =>
  loadK .ptr h ((some a_72)) (fun (v_73 : Option Addr) =>
  callK Try.prog (.int .i64) F.disk_Disk_Cut #[(.pointer v_73), (.int .i64 ((-1)))] (fun (v_74 : Int) (h : Heap) =>
  if (v_74 != 1) = true then
  R (.bool false) h
  else
  idxK v_60 s_61 (sizeOfT Try.prog T.p_disk_Disk) (fun (a_75 : Addr) =>
  idxK v_60 s_61 (sizeOfT Try.prog T.p_disk_Disk) (fun (a_76 : Addr) =>
  idxK v_60 s_61 (sizeOfT Try.prog T.p_disk_Disk) (fun (a_77 : Addr) =>
  loadK .ptr h ((some a_75)) (fun (v_78 : Option Addr) =>
  loadK .ptr h ((some a_76)) (fun (v_79 : Option Addr) =>
  loadK .ptr h ((some a_77)) (fun (v_80 : Option Addr) =>
  callK Try.prog (.int .i64) F.disk_Disk_Len #[(.pointer v_78)] (fun (v_81 : Int) (h : Heap) =>
  stillK .ptr h ((some a_77)) v_80 ∧
  stillK .ptr h ((some a_76)) v_79 ∧
  callK Try.prog (.int .i64) F.disk_Disk_Synced #[(.pointer v_79)] (fun (v_82 : Int) (h : Heap) =>
  stillK .ptr h ((some a_77)) v_80 ∧
  callK Try.prog .slice F.disk_Disk_Bytes #[(.pointer v_80)] (fun (v_83 : Sl) (h : Heap) =>
  if ((IntKind.i64.wrap ((IntKind.i64.wrap (v_81 + v_82)) + ((v_83.n : Int)))) != 0) = true then
  R (.bool false) h
  else
  idxK v_60 s_61 (sizeOfT Try.prog T.p_disk_Disk) (fun (a_84 : Addr) =>
  loadK .ptr h ((some a_84)) (fun (v_85 : Option Addr) =>
  callK Try.prog .ptr F.disk_Disk_Copy #[(.pointer v_85)] (fun (v_86 : Option Addr) (h : Heap) =>
  if (!v_86.isNone) = true then
  R (.bool false) h
  else
  X_62 (IntKind.i64.wrap (s_61 + 1)) h) h))) h) h) h))))))) h))) h))) h))) h))
  else
  callK Try.prog .bool F.law25_awake #[] (fun (v_87 : Bool) (h : Heap) =>
  R (.bool v_87) h) h) 0 h)))) h) h) h))) h))) h) h) h))) h) h))) h)) h) 0 h))))))))
def law25_DiskSmall.ann : Ann := (.seq .leaf (.seq .leaf (.seq .leaf (.seq (.seq .leaf (.block (.loop [(3, (.int .i64))] (.seq (.seq .leaf (.cond .leaf .leaf)) (.seq (.block (.seq (.any (.loc 0 (.loc 1 (.loc 2 (.loc 3 (.loc 4 (.loc 5 (.loc 7 (.loc 8 (.loc 9 (.loc 10 (.loc 13 (.loc 14 (.loc 15 (.loc 16 (.loc 17 (.loc 18 (.loc 19 (.loc 20 (.loc 22 (.loc 23 (.loc 26 (.loc 27 (.loc 28 (.loc 29 (.loc 30 (.loc 31 (.loc 32 (.loc 33 (.loc 35 (.loc 36 (.loc 37 (.loc 38 (.loc 39 (.loc 42 (.loc 43 (.loc 44 (.loc 45 (.loc 46 (.loc 47 (.loc 48 (.loc 49 (.loc 51 (.loc 52 (.loc 55 (.loc 56 (.loc 57 (.loc 58 (.loc 59 (.st 6 13835058055282167808 (.st 11 13835058055282167808 (.loc 12 (.st 21 13835058055315718144 (.st 24 13835058055315718144 (.loc 25 (.st 34 13835060254305419264 (.st 40 13835060254305419264 (.loc 41 (.st 50 13853072453791645696 (.st 53 13853072453791645696 (.loc 54 (.st 60 16140901064495857664 (.loc 61 (.last 62 (.loc 63 .done))))))))))))))))))))))))))))))))))))))))))))))))))))))))))))))))) (.seq .leaf (.cond (.seq .leaf .leaf) .leaf)))) .leaf))))) (.seq .leaf (.seq .leaf (.seq .leaf (.seq (.seq .leaf (.cond (.seq .leaf .leaf) .leaf)) (.seq .leaf (.seq (.seq .leaf (.block (.loop [(11, (.int .i64))] (.seq (.seq .leaf (.cond .leaf .leaf)) (.seq (.block (.seq (.any (.loc 0 (.loc 1 (.loc 2 (.st 3 576460752303423472 (.last 4 (.loc 5 (.loc 6 (.locA 7 (.loc 8 (.loc 9 (.loc 10 (.loc 11 (.loc 12 (.loc 13 (.loc 14 (.loc 15 (.loc 16 (.loc 17 (.loc 18 (.loc 19 (.loc 20 (.loc 21 (.loc 22 (.loc 23 (.loc 24 (.loc 25 (.loc 26 (.loc 27 (.loc 28 (.loc 29 (.loc 30 (.loc 31 (.loc 32 (.loc 33 (.loc 34 (.loc 35 (.loc 36 (.loc 37 (.loc 38 (.loc 39 (.loc 40 (.loc 41 (.loc 42 (.loc 43 (.loc 44 (.loc 45 (.loc 46 (.loc 47 (.loc 48 (.loc 49 (.loc 50 (.loc 51 (.loc 52 (.loc 53 (.loc 54 (.loc 55 (.loc 56 (.loc 57 (.loc 58 .done))))))))))))))))))))))))))))))))))))))))))))))))))) (.loc 8 (.loc 9 (.st 10 576460752303421440 (.last 11 (.loc 12 (.loc 13 (.loc 14 (.locA 15 (.loc 16 (.loc 17 (.loc 18 (.loc 19 (.loc 20 (.loc 21 (.loc 22 (.loc 23 (.loc 24 (.loc 25 (.loc 26 (.loc 27 (.loc 28 (.loc 29 (.loc 30 (.loc 31 (.loc 32 (.loc 33 (.loc 34 (.loc 35 (.loc 36 (.loc 37 (.loc 38 (.loc 39 (.loc 40 (.loc 41 (.loc 42 (.loc 43 (.loc 44 (.loc 45 (.loc 46 (.loc 47 (.loc 48 (.loc 49 (.loc 50 (.loc 51 (.loc 52 (.loc 53 (.loc 54 (.loc 55 (.loc 56 (.loc 57 (.loc 58 .done))))))))))))))))))))))))))))))))))))))))))) (.loc 16 (.loc 17 (.st 18 576460752302899200 (.last 19 (.loc 20 (.loc 21 (.loc 22 (.locA 23 (.loc 24 (.loc 25 (.loc 26 (.loc 27 (.loc 28 (.loc 29 (.loc 30 (.loc 31 (.loc 32 (.loc 33 (.loc 34 (.loc 35 (.loc 36 (.loc 37 (.loc 38 (.loc 39 (.loc 40 (.loc 41 (.loc 42 (.loc 43 (.loc 44 (.loc 45 (.loc 46 (.loc 47 (.loc 48 (.loc 49 (.loc 50 (.loc 51 (.loc 52 (.loc 53 (.loc 54 (.loc 55 (.loc 56 (.loc 57 (.loc 58 .done))))))))))))))))))))))))))))))))))) (.loc 24 (.loc 25 (.st 26 576460752169205760 (.last 27 (.loc 28 (.loc 29 (.loc 30 (.locA 31 (.loc 32 (.loc 33 (.loc 34 (.loc 35 (.loc 36 (.loc 37 (.loc 38 (.loc 39 (.loc 40 (.loc 41 (.loc 42 (.loc 43 (.loc 44 (.loc 45 (.loc 46 (.loc 47 (.loc 48 (.loc 49 (.loc 50 (.loc 51 (.loc 52 (.loc 53 (.loc 54 (.loc 55 (.loc 56 (.loc 57 (.loc 58 .done))))))))))))))))))))))))))) (.loc 32 (.loc 33 (.loc 36 (.loc 37 (.loc 38 (.loc 42 (.loc 43 (.loc 44 (.st 34 576393716453867520 (.st 39 576393682094129152 (.st 45 576390383559245824 (.last 35 (.last 40 (.loc 41 (.last 46 (.loc 47 (.loc 48 (.loc 49 (.loc 50 (.loc 51 (.locA 52 (.loc 53 (.loc 54 (.loc 55 (.loc 56 (.loc 57 (.loc 58 .done)))))) (.loc 53 (.loc 54 (.st 55 504403158265495552 (.last 56 (.loc 57 (.loc 58 .done)))))))))))))))))))))))))))))))))))))))))))))))))))))))))))) (.cond (.seq .leaf .leaf) .leaf))) .leaf))))) (.seq .leaf .leaf)))))))))))
theorem law25_DiskSmall.eq  (R : Value → Heap → Prop) (h : Heap) : law25_DiskSmall.body  R h = evFn Try.prog Try.f6 law25_DiskSmall.ann [] R h := by kernel_rfl
theorem law25_DiskSmall.calls  {R : Value → Heap → Prop} {h : Heap} (H : law25_DiskSmall.body  R h) : HC Try.prog F.law25_DiskSmall #[] R h :=
  evFn_sound mixed Try.func6 (by kernel_rfl) (law25_DiskSmall.eq  R h ▸ H)

/-! zugzwang/zugzwanglaw25.DiskParts -/
def law25_DiskParts.body (a0 : Sl) (b1 : Sl) (n2 : Int) (R : Value → Heap → Prop) (h : Heap) : Prop :=
  callK Try.prog .bool F.law25_awake #[] (fun (v_1 : Bool) (h : Heap) =>
  if (!v_1) = true then
  R (.bool false) h
  else
  buildK Try.prog (Instr.build T.zugzwanglaw25_Deed #[(2, (.slice a0.a a0.n a0.c))]) (fun (v_2 : Array Value) =>
  buildK Try.prog (Instr.build T.zugzwanglaw25_Deed #[(2, (.slice b1.a b1.n b1.c))]) (fun (v_3 : Array Value) =>
  opK Try.prog .slice (Instr.buildSlice T.sl_zugzwanglaw25_Deed 2 #[(0, (.agg v_2)), (1, (.agg v_3))]) (fun (v_4 : Sl) (h : Heap) =>
  callK Try.prog (.int .i64) F.law25_size #[(.slice v_4.a v_4.n v_4.c)] (fun (v_5 : Int) (h : Heap) =>
  if (decide (v_5 > 2000)) = true then
  R (.bool true) h
  else
  callK Try.prog (Kd.pair .ptr (.int .i64)) F.disk_New #[(.slice a0.a a0.n a0.c)] (fun (v_6 : Option Addr × Int) (h : Heap) =>
  callK Try.prog (Kd.pair .ptr (.int .i64)) F.disk_New #[(.slice none 0 0)] (fun (v_7 : Option Addr × Int) (h : Heap) =>
  if (v_6.2 != 0) = true then
  R (.bool false) h
  else
  if (v_7.2 != 0) = true then
  R (.bool false) h
  else
  loopW (fun X_9 (s_8 : Int) (h : Heap) =>
  if (decide (s_8 < ((a0.n : Int)))) = true then
  idxK a0 s_8 (sizeOfT Try.prog T.sl_uint8) (fun (a_10 : Addr) =>
  loadK .slice h ((some a_10)) (fun (v_11 : Sl) =>
  newSlK h 1 #[(.slice v_11.a v_11.n v_11.c)] T.sl_uint8 (fun (v_12 : Sl) (h : Heap) =>
  callK Try.prog (.int .i64) F.disk_Disk_Write #[(.pointer v_7.1), (.slice v_12.a v_12.n v_12.c)] (fun (v_13 : Int) (h : Heap) =>
  X_9 (IntKind.i64.wrap (s_8 + 1)) h) h)))
  else
  callK Try.prog (.int .i64) F.disk_Disk_Sync #[(.pointer v_7.1)] (fun (v_14 : Int) (h : Heap) =>
  callK Try.prog (.int .i64) F.disk_Disk_Write #[(.pointer v_6.1), (.slice b1.a b1.n b1.c)] (fun (v_15 : Int) (h : Heap) =>
  loopW (fun X_17 (s_16 : Int) (h : Heap) =>
  if (decide (s_16 < ((b1.n : Int)))) = true then
  idxK b1 s_16 (sizeOfT Try.prog T.sl_uint8) (fun (a_18 : Addr) =>
  loadK .slice h ((some a_18)) (fun (v_19 : Sl) =>
  newSlK h 1 #[(.slice v_19.a v_19.n v_19.c)] T.sl_uint8 (fun (v_20 : Sl) (h : Heap) =>
  callK Try.prog (.int .i64) F.disk_Disk_Write #[(.pointer v_7.1), (.slice v_20.a v_20.n v_20.c)] (fun (v_21 : Int) (h : Heap) =>
  X_17 (IntKind.i64.wrap (s_16 + 1)) h) h)))
  else
  callK Try.prog .slice F.disk_Disk_Bytes #[(.pointer v_6.1)] (fun (v_22 : Sl) (h : Heap) =>
  callK Try.prog .slice F.disk_Disk_Bytes #[(.pointer v_7.1)] (fun (v_23 : Sl) (h : Heap) =>
  callK Try.prog .bool F.kit_SameBytes #[(.slice v_22.a v_22.n v_22.c), (.slice v_23.a v_23.n v_23.c)] (fun (v_24 : Bool) (h : Heap) =>
  if (!v_24) = true then
  R (.bool false) h
  else
  callK Try.prog (.int .i64) F.disk_Disk_Synced #[(.pointer v_6.1)] (fun (v_25 : Int) (h : Heap) =>
  callK Try.prog (.int .i64) F.disk_Disk_Synced #[(.pointer v_7.1)] (fun (v_26 : Int) (h : Heap) =>
  if (v_25 != v_26) = true then
  R (.bool false) h
  else
  callK Try.prog (.int .i64) F.disk_Disk_Len #[(.pointer v_6.1)] (fun (v_27 : Int) (h : Heap) =>
  callK Try.prog (.int .i64) F.kit_Pick #[(.int .i64 n2), (.int .i64 (IntKind.i64.wrap (v_27 + 1)))] (fun (v_28 : Int) (h : Heap) =>
  callK Try.prog .slice F.disk_Disk_Bytes #[(.pointer v_6.1)] (fun (v_29 : Sl) (h : Heap) =>
  callK Try.prog (.int .i64) F.disk_Disk_Cut #[(.pointer v_6.1), (.int .i64 ((v_29.n : Int)))] (fun (v_30 : Int) (h : Heap) =>
  if (v_30 == 0) = true then
  callK Try.prog (.int .i64) F.disk_Disk_Synced #[(.pointer v_6.1)] (fun (v_31 : Int) (h : Heap) =>
  if (v_31 == ((v_29.n : Int))) = true then
  callK Try.prog .slice F.disk_Disk_Bytes #[(.pointer v_6.1)] (fun (v_32 : Sl) (h : Heap) =>
  callK Try.prog .bool F.kit_SameBytes #[(.slice v_32.a v_32.n v_32.c), (.slice v_29.a v_29.n v_29.c)] (fun (v_33 : Bool) (h : Heap) =>
  if v_33 = true then
  callK Try.prog (.int .i64) F.disk_Disk_Cut #[(.pointer v_6.1), (.int .i64 v_28)] (fun (v_34 : Int) (h : Heap) =>
  if (v_34 == 0) = true then
  callK Try.prog (.int .i64) F.disk_Disk_Fall #[(.pointer v_6.1), (.int .i64 9)] (fun (v_35 : Int) (h : Heap) =>
  if (v_35 == 0) = true then
  sliceK v_29 none (some v_28) none (sizeOfT Try.prog T.uint8) (fun (v_36 : Sl) =>
  callK Try.prog .slice F.disk_Disk_Bytes #[(.pointer v_6.1)] (fun (v_37 : Sl) (h : Heap) =>
  callK Try.prog .bool F.kit_SameBytes #[(.slice v_37.a v_37.n v_37.c), (.slice v_36.a v_36.n v_36.c)] (fun (v_38 : Bool) (h : Heap) =>
  R (.bool v_38) h) h) h)
  else
  R (.bool false) h) h
  else
  R (.bool false) h) h
  else
  R (.bool false) h) h) h
  else
  R (.bool false) h) h
  else
  R (.bool false) h) h) h) h) h) h) h) h) h) h) 0 h) h) h) 0 h) h) h) h) h))) h
def law25_DiskParts.ann : Ann := (.seq .leaf (.seq (.seq .leaf (.cond (.seq .leaf .leaf) .leaf)) (.seq (.seq .leaf (.cond (.seq .leaf .leaf) .leaf)) (.seq .leaf (.seq .leaf (.seq (.seq .leaf (.cond (.seq .leaf .leaf) .leaf)) (.seq (.seq .leaf (.block (.loop [(11, (.int .i64))] (.seq (.seq .leaf (.cond .leaf .leaf)) (.seq (.block .leaf) .leaf))))) (.seq .leaf (.seq .leaf (.seq (.seq .leaf (.block (.loop [(12, (.int .i64))] (.seq (.seq .leaf (.cond .leaf .leaf)) (.seq (.block .leaf) .leaf))))) (.seq (.seq .leaf (.cond (.seq .leaf .leaf) .leaf)) (.seq .leaf (.seq .leaf (.seq (.any (.loc 0 (.loc 1 (.loc 2 (.last 3 (.loc 4 (.loc 5 (.locA 6 (.loc 8 (.loc 9 (.last 7 (.loc 10 (.loc 11 (.loc 12 (.locA 13 (.loc 15 (.last 14 (.last 16 (.loc 17 (.loc 18 (.locA 19 (.loc 20 (.last 21 (.loc 22 (.loc 23 (.loc 24 (.locA 25 (.last 26 (.loc 27 (.loc 28 (.loc 29 (.locA 30 (.loc 32 (.loc 33 (.loc 34 (.last 31 (.last 35 (.loc 36 (.loc 37 .done))))))) (.loc 31 (.loc 32 (.loc 33 (.loc 34 (.loc 35 (.loc 36 (.loc 37 .done)))))))))))) (.loc 26 (.loc 27 (.loc 28 (.loc 29 (.loc 30 (.loc 31 (.loc 32 (.loc 33 (.loc 34 (.loc 35 (.loc 36 (.loc 37 .done)))))))))))))))))) (.loc 20 (.loc 21 (.loc 22 (.loc 23 (.loc 24 (.loc 25 (.loc 26 (.loc 27 (.loc 28 (.loc 29 (.loc 30 (.loc 31 (.loc 32 (.loc 33 (.loc 34 (.loc 35 (.loc 36 (.loc 37 .done)))))))))))))))))))))))) (.loc 14 (.loc 15 (.loc 16 (.loc 17 (.loc 18 (.loc 19 (.loc 20 (.loc 21 (.loc 22 (.loc 23 (.loc 24 (.loc 25 (.loc 26 (.loc 27 (.loc 28 (.loc 29 (.loc 30 (.loc 31 (.loc 32 (.loc 33 (.loc 34 (.loc 35 (.loc 36 (.loc 37 .done))))))))))))))))))))))))))))))) (.loc 7 (.loc 8 (.loc 9 (.loc 10 (.loc 11 (.loc 12 (.loc 13 (.loc 14 (.loc 15 (.loc 16 (.loc 17 (.loc 18 (.loc 19 (.loc 20 (.loc 21 (.loc 22 (.loc 23 (.loc 24 (.loc 25 (.loc 26 (.loc 27 (.loc 28 (.loc 29 (.loc 30 (.loc 31 (.loc 32 (.loc 33 (.loc 34 (.loc 35 (.loc 36 (.loc 37 .done))))))))))))))))))))))))))))))))))))))) .leaf))))))))))))))
theorem law25_DiskParts.eq (a0 : Sl) (b1 : Sl) (n2 : Int) (R : Value → Heap → Prop) (h : Heap) : law25_DiskParts.body a0 b1 n2 R h = evFn Try.prog Try.f4 law25_DiskParts.ann [(.slice a0.a a0.n a0.c), (.slice b1.a b1.n b1.c), (.int .i64 n2)] R h := by kernel_rfl
theorem law25_DiskParts.calls {a0 : Sl} {b1 : Sl} {n2 : Int} {R : Value → Heap → Prop} {h : Heap} (H : law25_DiskParts.body a0 b1 n2 R h) : HC Try.prog F.law25_DiskParts #[(.slice a0.a a0.n a0.c), (.slice b1.a b1.n b1.c), (.int .i64 n2)] R h :=
  evFn_sound mixed Try.func4 (by kernel_rfl) (law25_DiskParts.eq a0 b1 n2 R h ▸ H)

end Go.Proofs.Ytmejgndgojfcaaa
