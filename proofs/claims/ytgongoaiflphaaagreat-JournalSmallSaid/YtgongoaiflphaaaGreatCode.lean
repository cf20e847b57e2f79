import Derived.Test.YtgongoaiflphaaaGreatSig
set_option linter.unusedVariables false
set_option maxRecDepth 100000
namespace Go.Proofs.YtgongoaiflphaaaGreat
open Go.Ev
/-! zugzwang/zugzwanglaw26.size -/
def law26_size.body (l0 : Sl) (R : Value → Heap → Prop) (h : Heap) : Prop :=
  loopW (fun X_2 (s_1 : Int × Int) (h : Heap) =>
  if (decide (s_1.2 < ((l0.n : Int)))) = true then
  if (decide (s_1.1 ≤ 1500)) = true then
  idxK l0 s_1.2 (sizeOfT Tryz.prog T.zugzwanglaw26_Deed) (fun (a_3 : Addr) =>
  fldK ((some a_3)) 2 (fun (a_4 : Addr) =>
  loadK .slice h ((some a_4)) (fun (v_5 : Sl) =>
  loopW (fun X_7 (s_6 : Int × Int) (h : Heap) =>
  idxK l0 s_1.2 (sizeOfT Tryz.prog T.zugzwanglaw26_Deed) (fun (a_8 : Addr) =>
  fldK ((some a_8)) 2 (fun (a_9 : Addr) =>
  loadK .slice h ((some a_9)) (fun (v_10 : Sl) =>
  if (decide (s_6.2 < ((v_10.n : Int)))) = true then
  if (decide (s_6.1 ≤ 1500)) = true then
  idxK l0 s_1.2 (sizeOfT Tryz.prog T.zugzwanglaw26_Deed) (fun (a_11 : Addr) =>
  fldK ((some a_11)) 2 (fun (a_12 : Addr) =>
  loadK .slice h ((some a_12)) (fun (v_13 : Sl) =>
  idxK v_13 s_6.2 (sizeOfT Tryz.prog T.sl_uint8) (fun (a_14 : Addr) =>
  loadK .slice h ((some a_14)) (fun (v_15 : Sl) =>
  X_7 (IntKind.i64.wrap (s_6.1 + ((v_15.n : Int))), IntKind.i64.wrap (s_6.2 + 1)) h)))))
  else
  X_2 (s_6.1, IntKind.i64.wrap (s_1.2 + 1)) h
  else
  X_2 (s_6.1, IntKind.i64.wrap (s_1.2 + 1)) h)))) (IntKind.i64.wrap (s_1.1 + ((v_5.n : Int))), 0) h)))
  else
  R (.int .i64 s_1.1) h
  else
  R (.int .i64 s_1.1) h) ((l0.n : Int), 0) h
def law26_size.ann : Ann := (.seq .leaf (.seq .leaf (.seq (.seq .leaf (.block (.loop [(3, (.int .i64)), (4, (.int .i64))] (.seq (.seq .leaf (.cond .leaf .leaf)) (.seq (.block (.seq .leaf (.seq .leaf (.block (.loop [(3, (.int .i64)), (5, (.int .i64))] (.seq (.seq .leaf (.cond .leaf .leaf)) (.seq (.block .leaf) .leaf))))))) .leaf))))) (.seq .leaf .leaf))))
theorem law26_size.eq (l0 : Sl) (R : Value → Heap → Prop) (h : Heap) : law26_size.body l0 R h = evFn Tryz.prog Tryz.f5 law26_size.ann [(.slice l0.a l0.n l0.c)] R h := by kernel_rfl
theorem law26_size.calls {l0 : Sl} {R : Value → Heap → Prop} {h : Heap} (H : law26_size.body l0 R h) : HC Tryz.prog F.law26_size #[(.slice l0.a l0.n l0.c)] R h :=
  evFn_sound mixed Tryz.func5 (by kernel_rfl) (law26_size.eq l0 R h ▸ H)

/-! slices.Clone[[]byte,byte] -/
def slices_Clone_byte_byte.body (s0 : Sl) (R : Value → Heap → Prop) (h : Heap) : Prop :=
  if s0.a.isNone = true then
  R (.slice none 0 0) h
  else
  newSlK h 0 #[] T.uint8 (fun (v_1 : Sl) (h : Heap) =>
  opK Tryz.prog .slice (Builtin.append_ #[T.sl_uint8, T.sl_uint8] T.sl_uint8 #[(.slice v_1.a v_1.n v_1.c), (.slice s0.a s0.n s0.c)]) (fun (v_2 : Sl) (h : Heap) =>
  R (.slice v_2.a v_2.n v_2.c) h) h)
def slices_Clone_byte_byte.ann : Ann := (.seq .leaf (.seq (.seq .leaf (.cond (.seq .leaf .leaf) .leaf)) (.seq .leaf .leaf)))
theorem slices_Clone_byte_byte.eq (s0 : Sl) (R : Value → Heap → Prop) (h : Heap) : slices_Clone_byte_byte.body s0 R h = evFn Tryz.prog Tryz.f31 slices_Clone_byte_byte.ann [(.slice s0.a s0.n s0.c)] R h := by kernel_rfl
theorem slices_Clone_byte_byte.calls {s0 : Sl} {R : Value → Heap → Prop} {h : Heap} (H : slices_Clone_byte_byte.body s0 R h) : HC Tryz.prog F.slices_Clone_byte_byte #[(.slice s0.a s0.n s0.c)] R h :=
  evFn_sound mixed Tryz.func31 (by kernel_rfl) (slices_Clone_byte_byte.eq s0 R h ▸ H)

/-! zugzwang/tags.New -/
def tags_New.body (real0 : Bool) (seed1 : Sl) (R : Value → Heap → Prop) (h : Heap) : Prop :=
  opK Tryz.prog .map (Instr.makeMap T.map_atags_thing_int none) (fun (v_1 : Option Nat) (h : Heap) =>
  buildK Tryz.prog (Instr.build T.tags_book #[(0, (.map v_1))]) (fun (v_2 : Array Value) =>
  callK Tryz.prog .slice F.slices_Clone_byte_byte #[(.slice seed1.a seed1.n seed1.c)] (fun (v_3 : Sl) (h : Heap) =>
  buildK Tryz.prog (Instr.build T.tags_Maker #[(0, (.agg v_2)), (1, (.bool real0)), (2, (.slice v_3.a v_3.n v_3.c))]) (fun (v_4 : Array Value) =>
  newK h v_4 T.tags_Maker (fun (v_5 : Option Addr) (h : Heap) =>
  R (.pointer v_5) h))) h)) h
def tags_New.ann : Ann := (.seq .leaf (.seq .leaf .leaf))
theorem tags_New.eq (real0 : Bool) (seed1 : Sl) (R : Value → Heap → Prop) (h : Heap) : tags_New.body real0 seed1 R h = evFn Tryz.prog Tryz.f7 tags_New.ann [(.bool real0), (.slice seed1.a seed1.n seed1.c)] R h := by kernel_rfl
theorem tags_New.calls {real0 : Bool} {seed1 : Sl} {R : Value → Heap → Prop} {h : Heap} (H : tags_New.body real0 seed1 R h) : HC Tryz.prog F.tags_New #[(.bool real0), (.slice seed1.a seed1.n seed1.c)] R h :=
  evFn_sound mixed Tryz.func7 (by kernel_rfl) (tags_New.eq real0 seed1 R h ▸ H)

/-! (*zugzwang/disk.file).fits -/
def disk_file_fits.body (f0 : Option Addr) (rows1 : Sl) (R : Value → Heap → Prop) (h : Heap) : Prop :=
  derefK f0 (fun (a_1 : Addr) =>
  fldK ((some a_1)) 0 (fun (a_2 : Addr) =>
  loadK .slice h ((some a_2)) (fun (v_3 : Sl) =>
  loopW (fun X_5 (s_4 : Int × Int) (h : Heap) =>
  if (decide (s_4.2 < ((rows1.n : Int)))) = true then
  idxK rows1 s_4.2 (sizeOfT Tryz.prog T.sl_uint8) (fun (a_6 : Addr) =>
  loadK .slice h ((some a_6)) (fun (v_7 : Sl) =>
  X_5 (IntKind.i64.wrap (s_4.1 + ((v_7.n : Int))), IntKind.i64.wrap (s_4.2 + 1)) h))
  else
  R (.bool (decide (s_4.1 ≤ 1048576))) h) ((v_3.n : Int), 0) h)))
def disk_file_fits.ann : Ann := (.seq .leaf (.seq .leaf (.seq (.seq .leaf (.block (.loop [(5, (.int .i64)), (15, (.int .i64))] (.seq .leaf (.seq (.cond .leaf .leaf) (.seq (.block (.seq .leaf .leaf)) .leaf)))))) (.seq .leaf .leaf))))
theorem disk_file_fits.eq (f0 : Option Addr) (rows1 : Sl) (R : Value → Heap → Prop) (h : Heap) : disk_file_fits.body f0 rows1 R h = evFn Tryz.prog Tryz.f32 disk_file_fits.ann [(.pointer f0), (.slice rows1.a rows1.n rows1.c)] R h := by kernel_rfl
theorem disk_file_fits.calls {f0 : Option Addr} {rows1 : Sl} {R : Value → Heap → Prop} {h : Heap} (H : disk_file_fits.body f0 rows1 R h) : HC Tryz.prog F.disk_file_fits #[(.pointer f0), (.slice rows1.a rows1.n rows1.c)] R h :=
  evFn_sound mixed Tryz.func32 (by kernel_rfl) (disk_file_fits.eq f0 rows1 R h ▸ H)

/-! (*zugzwang/disk.file).put -/
def disk_file_put.body (f0 : Option Addr) (rows1 : Sl) (R : Value → Heap → Prop) (h : Heap) : Prop :=
  loopW (fun X_2 (s_1 : Int) (h : Heap) =>
  if (decide (s_1 < ((rows1.n : Int)))) = true then
  idxK rows1 s_1 (sizeOfT Tryz.prog T.sl_uint8) (fun (a_3 : Addr) =>
  loadK .slice h ((some a_3)) (fun (v_4 : Sl) =>
  derefK f0 (fun (a_5 : Addr) =>
  fldK ((some a_5)) 0 (fun (a_6 : Addr) =>
  loadK .slice h ((some a_6)) (fun (v_7 : Sl) =>
  opK Tryz.prog .slice (Builtin.append_ #[T.sl_uint8, T.sl_uint8] T.sl_uint8 #[(.slice v_7.a v_7.n v_7.c), (.slice v_4.a v_4.n v_4.c)]) (fun (v_8 : Sl) (h : Heap) =>
  derefK f0 (fun (a_9 : Addr) =>
  fldK ((some a_9)) 0 (fun (a_10 : Addr) =>
  storeK h ((some a_10)) (.slice v_8.a v_8.n v_8.c) (fun (h : Heap) =>
  X_2 (IntKind.i64.wrap (s_1 + 1)) h)))) h)))))
  else
  R (.tuple #[]) h) 0 h
def disk_file_put.ann : Ann := (.seq .leaf (.block (.loop [(8, (.int .i64))] (.seq .leaf (.seq (.cond .leaf .leaf) (.seq (.block (.seq .leaf .leaf)) .leaf))))))
theorem disk_file_put.eq (f0 : Option Addr) (rows1 : Sl) (R : Value → Heap → Prop) (h : Heap) : disk_file_put.body f0 rows1 R h = evFn Tryz.prog Tryz.f33 disk_file_put.ann [(.pointer f0), (.slice rows1.a rows1.n rows1.c)] R h := by kernel_rfl
theorem disk_file_put.calls {f0 : Option Addr} {rows1 : Sl} {R : Value → Heap → Prop} {h : Heap} (H : disk_file_put.body f0 rows1 R h) : HC Tryz.prog F.disk_file_put #[(.pointer f0), (.slice rows1.a rows1.n rows1.c)] R h :=
  evFn_sound mixed Tryz.func33 (by kernel_rfl) (disk_file_put.eq f0 rows1 R h ▸ H)

/-! (*zugzwang/disk.file).leave -/
def disk_file_leave.body (f0 : Option Addr) (n1 : Int) (R : Value → Heap → Prop) (h : Heap) : Prop :=
  derefK f0 (fun (a_1 : Addr) =>
  fldK ((some a_1)) 0 (fun (a_2 : Addr) =>
  loadK .slice h ((some a_2)) (fun (v_3 : Sl) =>
  sliceK v_3 none (some n1) (some n1) (sizeOfT Tryz.prog T.uint8) (fun (v_4 : Sl) =>
  derefK f0 (fun (a_5 : Addr) =>
  fldK ((some a_5)) 0 (fun (a_6 : Addr) =>
  storeK h ((some a_6)) (.slice v_4.a v_4.n v_4.c) (fun (h : Heap) =>
  derefK f0 (fun (a_7 : Addr) =>
  fldK ((some a_7)) 1 (fun (a_8 : Addr) =>
  storeK h ((some a_8)) (.int .i64 n1) (fun (h : Heap) =>
  R (.tuple #[]) h))))))))))
def disk_file_leave.ann : Ann := .leaf
theorem disk_file_leave.eq (f0 : Option Addr) (n1 : Int) (R : Value → Heap → Prop) (h : Heap) : disk_file_leave.body f0 n1 R h = evFn Tryz.prog Tryz.f34 disk_file_leave.ann [(.pointer f0), (.int .i64 n1)] R h := by kernel_rfl
theorem disk_file_leave.calls {f0 : Option Addr} {n1 : Int} {R : Value → Heap → Prop} {h : Heap} (H : disk_file_leave.body f0 n1 R h) : HC Tryz.prog F.disk_file_leave #[(.pointer f0), (.int .i64 n1)] R h :=
  evFn_sound mixed Tryz.func34 (by kernel_rfl) (disk_file_leave.eq f0 n1 R h ▸ H)

/-! zugzwang/disk.New -/
def disk_New.body (rows0 : Sl) (R : Value → Heap → Prop) (h : Heap) : Prop :=
  buildK Tryz.prog (Instr.build T.disk_Disk #[(1, (.bool true))]) (fun (v_1 : Array Value) =>
  newK h v_1 T.disk_Disk (fun (v_2 : Option Addr) (h : Heap) =>
  derefK v_2 (fun (a_3 : Addr) =>
  fldK ((some a_3)) 0 (fun (a_4 : Addr) =>
  callK Tryz.prog .bool F.disk_file_fits #[(.pointer ((some a_4))), (.slice rows0.a rows0.n rows0.c)] (fun (v_5 : Bool) (h : Heap) =>
  if (!v_5) = true then
  R (.tuple #[(.pointer none), (.int .i64 3)]) h
  else
  derefK v_2 (fun (a_6 : Addr) =>
  fldK ((some a_6)) 0 (fun (a_7 : Addr) =>
  callK Tryz.prog .unit F.disk_file_put #[(.pointer ((some a_7))), (.slice rows0.a rows0.n rows0.c)] (fun (v_8 : Unit) (h : Heap) =>
  derefK v_2 (fun (a_9 : Addr) =>
  fldK ((some a_9)) 0 (fun (a_10 : Addr) =>
  derefK v_2 (fun (a_11 : Addr) =>
  fldK ((some a_11)) 0 (fun (a_12 : Addr) =>
  fldK ((some a_12)) 0 (fun (a_13 : Addr) =>
  loadK .slice h ((some a_13)) (fun (v_14 : Sl) =>
  callK Tryz.prog .unit F.disk_file_leave #[(.pointer ((some a_10))), (.int .i64 ((v_14.n : Int)))] (fun (v_15 : Unit) (h : Heap) =>
  R (.tuple #[(.pointer v_2), (.int .i64 0)]) h) h))))))) h))) h))))
def disk_New.ann : Ann := (.seq .leaf (.seq .leaf (.seq (.seq .leaf (.cond (.seq .leaf .leaf) .leaf)) (.seq .leaf (.seq (.any (.loc 0 (.loc 1 (.loc 2 (.loc 3 (.loc 4 (.loc 5 (.loc 6 (.st 7 768 (.loc 8 (.last 9 .done))))))))))) (.seq .leaf .leaf))))))
theorem disk_New.eq (rows0 : Sl) (R : Value → Heap → Prop) (h : Heap) : disk_New.body rows0 R h = evFn Tryz.prog Tryz.f8 disk_New.ann [(.slice rows0.a rows0.n rows0.c)] R h := by kernel_rfl
theorem disk_New.calls {rows0 : Sl} {R : Value → Heap → Prop} {h : Heap} (H : disk_New.body rows0 R h) : HC Tryz.prog F.disk_New #[(.slice rows0.a rows0.n rows0.c)] R h :=
  evFn_sound mixed Tryz.func8 (by kernel_rfl) (disk_New.eq rows0 R h ▸ H)

/-! (*zugzwang/disk.Disk).there -/
def disk_Disk_there.body (d0 : Option Addr) (R : Value → Heap → Prop) (h : Heap) : Prop :=
  if (!d0.isNone) = true then
  derefK d0 (fun (a_1 : Addr) =>
  fldK ((some a_1)) 2 (fun (a_2 : Addr) =>
  loadK .bool h ((some a_2)) (fun (v_3 : Bool) =>
  R (.bool v_3) h)))
  else
  R (.bool false) h
def disk_Disk_there.ann : Ann := (.seq .leaf (.seq .leaf .leaf))
theorem disk_Disk_there.eq (d0 : Option Addr) (R : Value → Heap → Prop) (h : Heap) : disk_Disk_there.body d0 R h = evFn Tryz.prog Tryz.f53 disk_Disk_there.ann [(.pointer d0)] R h := by kernel_rfl
theorem disk_Disk_there.calls {d0 : Option Addr} {R : Value → Heap → Prop} {h : Heap} (H : disk_Disk_there.body d0 R h) : HC Tryz.prog F.disk_Disk_there #[(.pointer d0)] R h :=
  evFn_sound mixed Tryz.func53 (by kernel_rfl) (disk_Disk_there.eq d0 R h ▸ H)

/-! (*zugzwang/disk.Disk).Len -/
def disk_Disk_Len.body (d0 : Option Addr) (R : Value → Heap → Prop) (h : Heap) : Prop :=
  callK Tryz.prog .bool F.disk_Disk_there #[(.pointer d0)] (fun (v_1 : Bool) (h : Heap) =>
  if (!v_1) = true then
  R (.int .i64 0) h
  else
  derefK d0 (fun (a_2 : Addr) =>
  fldK ((some a_2)) 0 (fun (a_3 : Addr) =>
  fldK ((some a_3)) 0 (fun (a_4 : Addr) =>
  loadK .slice h ((some a_4)) (fun (v_5 : Sl) =>
  R (.int .i64 ((v_5.n : Int))) h))))) h
def disk_Disk_Len.ann : Ann := (.seq .leaf (.seq (.seq .leaf (.cond (.seq .leaf .leaf) .leaf)) (.seq .leaf .leaf)))
theorem disk_Disk_Len.eq (d0 : Option Addr) (R : Value → Heap → Prop) (h : Heap) : disk_Disk_Len.body d0 R h = evFn Tryz.prog Tryz.f26 disk_Disk_Len.ann [(.pointer d0)] R h := by kernel_rfl
theorem disk_Disk_Len.calls {d0 : Option Addr} {R : Value → Heap → Prop} {h : Heap} (H : disk_Disk_Len.body d0 R h) : HC Tryz.prog F.disk_Disk_Len #[(.pointer d0)] R h :=
  evFn_sound mixed Tryz.func26 (by kernel_rfl) (disk_Disk_Len.eq d0 R h ▸ H)

/-! (*zugzwang/tags.Maker).there -/
def tags_Maker_there.body (m0 : Option Addr) (R : Value → Heap → Prop) (h : Heap) : Prop :=
  if (!m0.isNone) = true then
  derefK m0 (fun (a_1 : Addr) =>
  fldK ((some a_1)) 0 (fun (a_2 : Addr) =>
  fldK ((some a_2)) 0 (fun (a_3 : Addr) =>
  loadK .map h ((some a_3)) (fun (v_4 : Option Nat) =>
  R (.bool (!v_4.isNone)) h))))
  else
  R (.bool false) h
def tags_Maker_there.ann : Ann := (.seq .leaf (.seq .leaf .leaf))
theorem tags_Maker_there.eq (m0 : Option Addr) (R : Value → Heap → Prop) (h : Heap) : tags_Maker_there.body m0 R h = evFn Tryz.prog Tryz.f57 tags_Maker_there.ann [(.pointer m0)] R h := by kernel_rfl
theorem tags_Maker_there.calls {m0 : Option Addr} {R : Value → Heap → Prop} {h : Heap} (H : tags_Maker_there.body m0 R h) : HC Tryz.prog F.tags_Maker_there #[(.pointer m0)] R h :=
  evFn_sound mixed Tryz.func57 (by kernel_rfl) (tags_Maker_there.eq m0 R h ▸ H)

/-! maps.Clone[map[zugzwang/tags.thing]int,zugzwang/tags.thing,int] -/
def maps_Clone_map_tags_thing_int_tags_thing_int.body (m0 : Option Nat) (R : Value → Heap → Prop) (h : Heap) : Prop :=
  if m0.isNone = true then
  R (.map none) h
  else
  opK Tryz.prog .any (Instr.makeInterface T.map_atags_thing_int (.map m0)) (fun (v_1 : Value) (h : Heap) =>
  externK Tryz.prog .any F.maps_clone #[v_1] (fun (v_2 : Value) (h : Heap) =>
  opK Tryz.prog .map (Instr.typeAssert v_2 T.interface20 T.map_atags_thing_int false) (fun (v_3 : Option Nat) (h : Heap) =>
  R (.map v_3) h) h) h) h
def maps_Clone_map_tags_thing_int_tags_thing_int.ann : Ann := (.seq .leaf (.seq (.seq .leaf (.cond (.seq .leaf .leaf) .leaf)) (.seq .leaf .leaf)))
theorem maps_Clone_map_tags_thing_int_tags_thing_int.eq (m0 : Option Nat) (R : Value → Heap → Prop) (h : Heap) : maps_Clone_map_tags_thing_int_tags_thing_int.body m0 R h = evFn Tryz.prog Tryz.f58 maps_Clone_map_tags_thing_int_tags_thing_int.ann [(.map m0)] R h := by kernel_rfl
theorem maps_Clone_map_tags_thing_int_tags_thing_int.calls {m0 : Option Nat} {R : Value → Heap → Prop} {h : Heap} (H : maps_Clone_map_tags_thing_int_tags_thing_int.body m0 R h) : HC Tryz.prog F.maps_Clone_map_tags_thing_int_tags_thing_int #[(.map m0)] R h :=
  evFn_sound mixed Tryz.func58 (by kernel_rfl) (maps_Clone_map_tags_thing_int_tags_thing_int.eq m0 R h ▸ H)

/-! (*zugzwang/tags.Maker).Copy -/
def tags_Maker_Copy.body (m0 : Option Addr) (R : Value → Heap → Prop) (h : Heap) : Prop :=
  callK Tryz.prog .bool F.tags_Maker_there #[(.pointer m0)] (fun (v_1 : Bool) (h : Heap) =>
  if (!v_1) = true then
  R (.pointer none) h
  else
  derefK m0 (fun (a_2 : Addr) =>
  fldK ((some a_2)) 0 (fun (a_3 : Addr) =>
  fldK ((some a_3)) 0 (fun (a_4 : Addr) =>
  derefK m0 (fun (a_5 : Addr) =>
  fldK ((some a_5)) 1 (fun (a_6 : Addr) =>
  derefK m0 (fun (a_7 : Addr) =>
  fldK ((some a_7)) 2 (fun (a_8 : Addr) =>
  loadK .map h ((some a_4)) (fun (v_9 : Option Nat) =>
  loadK .bool h ((some a_6)) (fun (v_10 : Bool) =>
  loadK .slice h ((some a_8)) (fun (v_11 : Sl) =>
  callK Tryz.prog .map F.maps_Clone_map_tags_thing_int_tags_thing_int #[(.map v_9)] (fun (v_12 : Option Nat) (h : Heap) =>
  stillK .slice h ((some a_8)) v_11 ∧
  stillK .bool h ((some a_6)) v_10 ∧
  buildK Tryz.prog (Instr.build T.tags_book #[(0, (.map v_12))]) (fun (v_13 : Array Value) =>
  callK Tryz.prog .slice F.slices_Clone_byte_byte #[(.slice v_11.a v_11.n v_11.c)] (fun (v_14 : Sl) (h : Heap) =>
  stillK .bool h ((some a_6)) v_10 ∧
  buildK Tryz.prog (Instr.build T.tags_Maker #[(0, (.agg v_13)), (1, (.bool v_10)), (2, (.slice v_14.a v_14.n v_14.c))]) (fun (v_15 : Array Value) =>
  newK h v_15 T.tags_Maker (fun (v_16 : Option Addr) (h : Heap) =>
  R (.pointer v_16) h))) h)) h))))))))))) h
def tags_Maker_Copy.ann : Ann := (.seq .leaf (.seq (.seq .leaf (.cond (.seq .leaf .leaf) .leaf)) (.seq (.any (.loc 0 (.loc 1 (.loc 2 (.loc 3 (.loc 7 (.loc 8 (.loc 9 (.loc 11 (.loc 12 (.loc 13 (.st 4 491616 (.st 10 458752 (.st 14 491520 (.last 5 (.loc 6 (.last 15 (.loc 16 (.last 17 (.loc 18 .done)))))))))))))))))))) .leaf)))
theorem tags_Maker_Copy.eq (m0 : Option Addr) (R : Value → Heap → Prop) (h : Heap) : tags_Maker_Copy.body m0 R h = evFn Tryz.prog Tryz.f35 tags_Maker_Copy.ann [(.pointer m0)] R h := by kernel_rfl
theorem tags_Maker_Copy.calls {m0 : Option Addr} {R : Value → Heap → Prop} {h : Heap} (H : tags_Maker_Copy.body m0 R h) : HC Tryz.prog F.tags_Maker_Copy #[(.pointer m0)] R h :=
  evFn_sound mixed Tryz.func35 (by kernel_rfl) (tags_Maker_Copy.eq m0 R h ▸ H)

/-! (*zugzwang/disk.Disk).Write -/
def disk_Disk_Write.body (d0 : Option Addr) (rows1 : Sl) (R : Value → Heap → Prop) (h : Heap) : Prop :=
  callK Tryz.prog .bool F.disk_Disk_there #[(.pointer d0)] (fun (v_1 : Bool) (h : Heap) =>
  if (!v_1) = true then
  R (.int .i64 1) h
  else
  derefK d0 (fun (a_2 : Addr) =>
  fldK ((some a_2)) 0 (fun (a_3 : Addr) =>
  callK Tryz.prog .bool F.disk_file_fits #[(.pointer ((some a_3))), (.slice rows1.a rows1.n rows1.c)] (fun (v_4 : Bool) (h : Heap) =>
  if (!v_4) = true then
  R (.int .i64 3) h
  else
  derefK d0 (fun (a_5 : Addr) =>
  fldK ((some a_5)) 0 (fun (a_6 : Addr) =>
  callK Tryz.prog .unit F.disk_file_put #[(.pointer ((some a_6))), (.slice rows1.a rows1.n rows1.c)] (fun (v_7 : Unit) (h : Heap) =>
  R (.int .i64 0) h) h))) h))) h
def disk_Disk_Write.ann : Ann := (.seq .leaf (.seq (.block (.seq .leaf (.cond (.seq .leaf .leaf) (.seq .leaf (.cond (.seq .leaf .leaf) .leaf))))) (.seq .leaf (.seq .leaf .leaf))))
theorem disk_Disk_Write.eq (d0 : Option Addr) (rows1 : Sl) (R : Value → Heap → Prop) (h : Heap) : disk_Disk_Write.body d0 rows1 R h = evFn Tryz.prog Tryz.f36 disk_Disk_Write.ann [(.pointer d0), (.slice rows1.a rows1.n rows1.c)] R h := by kernel_rfl
theorem disk_Disk_Write.calls {d0 : Option Addr} {rows1 : Sl} {R : Value → Heap → Prop} {h : Heap} (H : disk_Disk_Write.body d0 rows1 R h) : HC Tryz.prog F.disk_Disk_Write #[(.pointer d0), (.slice rows1.a rows1.n rows1.c)] R h :=
  evFn_sound mixed Tryz.func36 (by kernel_rfl) (disk_Disk_Write.eq d0 rows1 R h ▸ H)

/-! zugzwang/codec.New -/
def codec_New.body  (R : Value → Heap → Prop) (h : Heap) : Prop :=
  buildK Tryz.prog (Instr.build T.codec_state #[(0, (.bool true))]) (fun (v_1 : Array Value) =>
  buildK Tryz.prog (Instr.build T.codec_Writer #[(0, (.agg v_1))]) (fun (v_2 : Array Value) =>
  newK h v_2 T.codec_Writer (fun (v_3 : Option Addr) (h : Heap) =>
  R (.pointer v_3) h)))
def codec_New.ann : Ann := (.seq .leaf (.seq .leaf .leaf))
theorem codec_New.eq  (R : Value → Heap → Prop) (h : Heap) : codec_New.body  R h = evFn Tryz.prog Tryz.f66 codec_New.ann [] R h := by kernel_rfl
theorem codec_New.calls  {R : Value → Heap → Prop} {h : Heap} (H : codec_New.body  R h) : HC Tryz.prog F.codec_New #[] R h :=
  evFn_sound mixed Tryz.func66 (by kernel_rfl) (codec_New.eq  R h ▸ H)

/-! (*zugzwang/codec.state).sound -/
def codec_state_sound.body (s0 : Option Addr) (R : Value → Heap → Prop) (h : Heap) : Prop :=
  derefK s0 (fun (a_1 : Addr) =>
  fldK ((some a_1)) 1 (fun (a_2 : Addr) =>
  loadK (.int .i64) h ((some a_2)) (fun (v_3 : Int) =>
  R (.bool (v_3 == 0)) h)))
def codec_state_sound.ann : Ann := (.seq .leaf (.seq .leaf .leaf))
theorem codec_state_sound.eq (s0 : Option Addr) (R : Value → Heap → Prop) (h : Heap) : codec_state_sound.body s0 R h = evFn Tryz.prog Tryz.f78 codec_state_sound.ann [(.pointer s0)] R h := by kernel_rfl
theorem codec_state_sound.calls {s0 : Option Addr} {R : Value → Heap → Prop} {h : Heap} (H : codec_state_sound.body s0 R h) : HC Tryz.prog F.codec_state_sound #[(.pointer s0)] R h :=
  evFn_sound mixed Tryz.func78 (by kernel_rfl) (codec_state_sound.eq s0 R h ▸ H)

/-! (*zugzwang/codec.state).spoil -/
def codec_state_spoil.body (s0 : Option Addr) (e1 : Int) (R : Value → Heap → Prop) (h : Heap) : Prop :=
  joinW (fun (s_1 : Unit) (h : Heap) =>
  derefK s0 (fun (a_2 : Addr) =>
  fldK ((some a_2)) 1 (fun (a_3 : Addr) =>
  loadK (.int .i64) h ((some a_3)) (fun (v_4 : Int) =>
  R (.int .i64 v_4) h))))
  (fun J_5 =>
  derefK s0 (fun (a_6 : Addr) =>
  fldK ((some a_6)) 1 (fun (a_7 : Addr) =>
  loadK (.int .i64) h ((some a_7)) (fun (v_8 : Int) =>
  if (v_8 == 0) = true then
  derefK s0 (fun (a_9 : Addr) =>
  fldK ((some a_9)) 1 (fun (a_10 : Addr) =>
  storeK h ((some a_10)) (.int .i64 e1) (fun (h : Heap) =>
  J_5 () h)))
  else
  J_5 () h))))
def codec_state_spoil.ann : Ann := (.seq .leaf (.join [] (.seq .leaf (.cond .leaf .leaf)) (.seq .leaf .leaf)))
theorem codec_state_spoil.eq (s0 : Option Addr) (e1 : Int) (R : Value → Heap → Prop) (h : Heap) : codec_state_spoil.body s0 e1 R h = evFn Tryz.prog Tryz.f99 codec_state_spoil.ann [(.pointer s0), (.int .i64 e1)] R h := by kernel_rfl
theorem codec_state_spoil.calls {s0 : Option Addr} {e1 : Int} {R : Value → Heap → Prop} {h : Heap} (H : codec_state_spoil.body s0 e1 R h) : HC Tryz.prog F.codec_state_spoil #[(.pointer s0), (.int .i64 e1)] R h :=
  evFn_sound mixed Tryz.func99 (by kernel_rfl) (codec_state_spoil.eq s0 e1 R h ▸ H)

/-! zugzwang/codec.put[[]byte] -/
def codec_put_byte.body (w0 : Option Addr) (r1 : Array Value) (l2 : Sl) (R : Value → Heap → Prop) (h : Heap) : Prop :=
  newK h r1 T.codec_ruleasl_byte (fun (r_1 : Option Addr) (h : Heap) =>
  if w0.isNone = true then
  R (.int .i64 1) h
  else
  derefK w0 (fun (a_2 : Addr) =>
  fldK ((some a_2)) 0 (fun (a_3 : Addr) =>
  fldK ((some a_3)) 0 (fun (a_4 : Addr) =>
  loadK .bool h ((some a_4)) (fun (v_5 : Bool) =>
  if (!v_5) = true then
  R (.int .i64 1) h
  else
  joinW (fun (s_6 : Unit) (h : Heap) =>
  derefK w0 (fun (a_7 : Addr) =>
  fldK ((some a_7)) 0 (fun (a_8 : Addr) =>
  fldK ((some a_8)) 1 (fun (a_9 : Addr) =>
  loadK (.int .i64) h ((some a_9)) (fun (v_10 : Int) =>
  R (.int .i64 v_10) h)))))
  (fun J_11 =>
  loopW (fun X_13 (s_12 : Int) (h : Heap) =>
  if (decide (s_12 < ((l2.n : Int)))) = true then
  idxK l2 s_12 (sizeOfT Tryz.prog T.sl_uint8) (fun (a_14 : Addr) =>
  loadK .slice h ((some a_14)) (fun (v_15 : Sl) =>
  derefK w0 (fun (a_16 : Addr) =>
  fldK ((some a_16)) 0 (fun (a_17 : Addr) =>
  callK Tryz.prog .bool F.codec_state_sound #[(.pointer ((some a_17)))] (fun (v_18 : Bool) (h : Heap) =>
  if (!v_18) = true then
  J_11 () h
  else
  joinW (fun (s_19 : Bool) (h : Heap) =>
  if s_19 = true then
  derefK w0 (fun (a_20 : Addr) =>
  fldK ((some a_20)) 0 (fun (a_21 : Addr) =>
  callK Tryz.prog (.int .i64) F.codec_state_spoil #[(.pointer ((some a_21))), (.int .i64 2)] (fun (v_22 : Int) (h : Heap) =>
  R (.int .i64 v_22) h) h))
  else
  fldK r_1 1 (fun (a_23 : Addr) =>
  loadK .any h ((some a_23)) (fun (v_24 : Value) =>
  callV Tryz.prog .slice v_24 #[(.slice v_15.a v_15.n v_15.c)] (fun (v_25 : Sl) (h : Heap) =>
  derefK w0 (fun (a_26 : Addr) =>
  fldK ((some a_26)) 2 (fun (a_27 : Addr) =>
  loadK .slice h ((some a_27)) (fun (v_28 : Sl) =>
  if (decide ((IntKind.i64.wrap (((v_28.n : Int)) + ((v_25.n : Int)))) > 65536)) = true then
  derefK w0 (fun (a_29 : Addr) =>
  fldK ((some a_29)) 0 (fun (a_30 : Addr) =>
  callK Tryz.prog (.int .i64) F.codec_state_spoil #[(.pointer ((some a_30))), (.int .i64 3)] (fun (v_31 : Int) (h : Heap) =>
  R (.int .i64 v_31) h) h))
  else
  derefK w0 (fun (a_32 : Addr) =>
  fldK ((some a_32)) 2 (fun (a_33 : Addr) =>
  loadK .slice h ((some a_33)) (fun (v_34 : Sl) =>
  opK Tryz.prog .slice (Builtin.append_ #[T.sl_uint8, T.sl_uint8] T.sl_uint8 #[(.slice v_34.a v_34.n v_34.c), (.slice v_25.a v_25.n v_25.c)]) (fun (v_35 : Sl) (h : Heap) =>
  derefK w0 (fun (a_36 : Addr) =>
  fldK ((some a_36)) 2 (fun (a_37 : Addr) =>
  storeK h ((some a_37)) (.slice v_35.a v_35.n v_35.c) (fun (h : Heap) =>
  X_13 (IntKind.i64.wrap (s_12 + 1)) h)))) h))))))) h)))
  (fun J_38 =>
  fldK r_1 0 (fun (a_39 : Addr) =>
  loadK .any h ((some a_39)) (fun (v_40 : Value) =>
  eqK Tryz.prog (binSem .neq T.func91 (.tmp 32) (.const Value.nilFunc) v_40 Value.nilFunc) (fun (v_41 : Bool) =>
  if v_41 = true then
  fldK r_1 0 (fun (a_42 : Addr) =>
  loadK .any h ((some a_42)) (fun (v_43 : Value) =>
  callV Tryz.prog .bool v_43 #[(.slice v_15.a v_15.n v_15.c)] (fun (v_44 : Bool) (h : Heap) =>
  J_38 (!v_44) h) h))
  else
  J_38 false h))))) h))))
  else
  J_11 () h) 0 h))))))
def codec_put_byte.ann : Ann := (.seq .leaf (.seq (.seq .leaf (.cond (.seq .leaf .leaf) .leaf)) (.join [] (.seq .leaf (.block (.loop [(22, (.int .i64))] (.seq .leaf (.seq (.cond .leaf .leaf) (.seq (.block (.seq .leaf (.seq (.seq .leaf (.cond .leaf .leaf)) (.seq (.join [(40, .bool)] .leaf (.cond (.seq .leaf .leaf) .leaf)) (.seq .leaf (.seq (.seq .leaf (.cond (.seq .leaf .leaf) .leaf)) .leaf)))))) .leaf)))))) (.seq .leaf .leaf))))
theorem codec_put_byte.eq (w0 : Option Addr) (r1 : Array Value) (l2 : Sl) (R : Value → Heap → Prop) (h : Heap) : codec_put_byte.body w0 r1 l2 R h = evFn Tryz.prog Tryz.f80 codec_put_byte.ann [(.pointer w0), (.agg r1), (.slice l2.a l2.n l2.c)] R h := by kernel_rfl
theorem codec_put_byte.calls {w0 : Option Addr} {r1 : Array Value} {l2 : Sl} {R : Value → Heap → Prop} {h : Heap} (H : codec_put_byte.body w0 r1 l2 R h) : HC Tryz.prog F.codec_put_byte #[(.pointer w0), (.agg r1), (.slice l2.a l2.n l2.c)] R h :=
  evFn_sound mixed Tryz.func80 (by kernel_rfl) (codec_put_byte.eq w0 r1 l2 R h ▸ H)

/-! slices.Grow[[]byte,byte] -/
def slices_Grow_byte_byte.body (s0 : Sl) (n1 : Int) (R : Value → Heap → Prop) (h : Heap) : Prop :=
  if (decide (n1 < 0)) = true then
  opK Tryz.prog .any (Instr.makeInterface T.string (.string ((⟨#[99, 97, 110, 110, 111, 116, 32, 98, 101, 32, 110, 101, 103, 97, 116, 105, 118, 101]⟩ : ByteArray)))) (fun (v_1 : Value) (h : Heap) =>
  False) h
  else
  if (decide ((IntKind.i64.wrap (n1 - (IntKind.i64.wrap (((s0.c : Int)) - ((s0.n : Int)))))) > 0)) = true then
  sliceK s0 none (some ((s0.c : Int))) none (sizeOfT Tryz.prog T.uint8) (fun (v_2 : Sl) =>
  opK Tryz.prog .slice (Builtin.append_ #[T.sl_uint8, T.int] T.sl_uint8 #[(.slice v_2.a v_2.n v_2.c), (.int .i64 (IntKind.i64.wrap (n1 - (IntKind.i64.wrap (((s0.c : Int)) - ((s0.n : Int)))))))]) (fun (v_3 : Sl) (h : Heap) =>
  sliceK v_3 none (some ((s0.n : Int))) none (sizeOfT Tryz.prog T.uint8) (fun (v_4 : Sl) =>
  R (.slice v_4.a v_4.n v_4.c) h)) h)
  else
  R (.slice s0.a s0.n s0.c) h
def slices_Grow_byte_byte.ann : Ann := (.seq .leaf (.seq (.seq .leaf (.cond .leaf .leaf)) (.seq (.seq .leaf (.seq .leaf (.cond .leaf .leaf))) (.seq .leaf .leaf))))
theorem slices_Grow_byte_byte.eq (s0 : Sl) (n1 : Int) (R : Value → Heap → Prop) (h : Heap) : slices_Grow_byte_byte.body s0 n1 R h = evFn Tryz.prog Tryz.f102 slices_Grow_byte_byte.ann [(.slice s0.a s0.n s0.c), (.int .i64 n1)] R h := by kernel_rfl
theorem slices_Grow_byte_byte.calls {s0 : Sl} {n1 : Int} {R : Value → Heap → Prop} {h : Heap} (H : slices_Grow_byte_byte.body s0 n1 R h) : HC Tryz.prog F.slices_Grow_byte_byte #[(.slice s0.a s0.n s0.c), (.int .i64 n1)] R h :=
  evFn_sound mixed Tryz.func102 (by kernel_rfl) (slices_Grow_byte_byte.eq s0 n1 R h ▸ H)

/-! slices.Concat[[]byte,byte] -/
def slices_Concat_byte_byte.body (slices0 : Sl) (R : Value → Heap → Prop) (h : Heap) : Prop :=
  loopW (fun X_2 (s_1 : Int × Int) (h : Heap) =>
  if (decide (s_1.2 < ((slices0.n : Int)))) = true then
  idxK slices0 s_1.2 (sizeOfT Tryz.prog T.sl_uint8) (fun (a_3 : Addr) =>
  loadK .slice h ((some a_3)) (fun (v_4 : Sl) =>
  if (decide ((IntKind.i64.wrap (s_1.1 + ((v_4.n : Int)))) < 0)) = true then
  opK Tryz.prog .any (Instr.makeInterface T.string (.string ((⟨#[108, 101, 110, 32, 111, 117, 116, 32, 111, 102, 32, 114, 97, 110, 103, 101]⟩ : ByteArray)))) (fun (v_5 : Value) (h : Heap) =>
  False) h
  else
  X_2 (IntKind.i64.wrap (s_1.1 + ((v_4.n : Int))), IntKind.i64.wrap (s_1.2 + 1)) h))
  else
  callK Tryz.prog .slice F.slices_Grow_byte_byte #[(.slice none 0 0), (.int .i64 s_1.1)] (fun (v_6 : Sl) (h : Heap) =>
  loopW (fun X_8 (s_7 : Sl × Int) (h : Heap) =>
  if (decide (s_7.2 < ((slices0.n : Int)))) = true then
  idxK slices0 s_7.2 (sizeOfT Tryz.prog T.sl_uint8) (fun (a_9 : Addr) =>
  loadK .slice h ((some a_9)) (fun (v_10 : Sl) =>
  opK Tryz.prog .slice (Builtin.append_ #[T.sl_uint8, T.sl_uint8] T.sl_uint8 #[(.slice s_7.1.a s_7.1.n s_7.1.c), (.slice v_10.a v_10.n v_10.c)]) (fun (v_11 : Sl) (h : Heap) =>
  X_8 (v_11, IntKind.i64.wrap (s_7.2 + 1)) h) h))
  else
  R (.slice s_7.1.a s_7.1.n s_7.1.c) h) (v_6, 0) h) h) (0, 0) h
def slices_Concat_byte_byte.ann : Ann := (.seq .leaf (.seq .leaf (.seq (.seq .leaf (.block (.loop [(3, (.int .i64)), (11, (.int .i64))] (.seq .leaf (.seq (.cond .leaf .leaf) (.seq (.block (.seq .leaf (.seq .leaf (.seq .leaf (.cond .leaf .leaf))))) .leaf)))))) (.seq .leaf (.seq (.seq .leaf (.block (.loop [(6, .slice), (27, (.int .i64))] (.seq .leaf (.seq (.cond .leaf .leaf) (.seq (.block (.seq .leaf .leaf)) .leaf)))))) (.seq .leaf .leaf))))))
theorem slices_Concat_byte_byte.eq (slices0 : Sl) (R : Value → Heap → Prop) (h : Heap) : slices_Concat_byte_byte.body slices0 R h = evFn Tryz.prog Tryz.f82 slices_Concat_byte_byte.ann [(.slice slices0.a slices0.n slices0.c)] R h := by kernel_rfl
theorem slices_Concat_byte_byte.calls {slices0 : Sl} {R : Value → Heap → Prop} {h : Heap} (H : slices_Concat_byte_byte.body slices0 R h) : HC Tryz.prog F.slices_Concat_byte_byte #[(.slice slices0.a slices0.n slices0.c)] R h :=
  evFn_sound mixed Tryz.func82 (by kernel_rfl) (slices_Concat_byte_byte.eq slices0 R h ▸ H)

/-! zugzwang/codec.bytes4 -/
def codec_bytes4.body (n0 : Int) (R : Value → Heap → Prop) (h : Heap) : Prop :=
  shiftK 24
  (shiftK 16
  (shiftK 8
  (newSlK h 4 #[(.int .u8 (IntKind.u8.wrap (Int.fdiv n0 (2 ^ min (Int.toNat 24) (IntKind.bits .i64))))), (.int .u8 (IntKind.u8.wrap (Int.fdiv n0 (2 ^ min (Int.toNat 16) (IntKind.bits .i64))))), (.int .u8 (IntKind.u8.wrap (Int.fdiv n0 (2 ^ min (Int.toNat 8) (IntKind.bits .i64))))), (.int .u8 (IntKind.u8.wrap n0))] T.uint8 (fun (v_1 : Sl) (h : Heap) =>
  R (.slice v_1.a v_1.n v_1.c) h))))
def codec_bytes4.ann : Ann := (.seq .leaf (.seq .leaf .leaf))
theorem codec_bytes4.eq (n0 : Int) (R : Value → Heap → Prop) (h : Heap) : codec_bytes4.body n0 R h = evFn Tryz.prog Tryz.f83 codec_bytes4.ann [(.int .i64 n0)] R h := by kernel_rfl
theorem codec_bytes4.calls {n0 : Int} {R : Value → Heap → Prop} {h : Heap} (H : codec_bytes4.body n0 R h) : HC Tryz.prog F.codec_bytes4 #[(.int .i64 n0)] R h :=
  evFn_sound mixed Tryz.func83 (by kernel_rfl) (codec_bytes4.eq n0 R h ▸ H)

/-! (*zugzwang/codec.Writer).Run$1 -/
def codec_Writer_Run_1.body (b0 : Sl) (R : Value → Heap → Prop) (h : Heap) : Prop :=
  callK Tryz.prog .slice F.codec_bytes4 #[(.int .i64 ((b0.n : Int)))] (fun (v_1 : Sl) (h : Heap) =>
  newSlK h 2 #[(.slice v_1.a v_1.n v_1.c), (.slice b0.a b0.n b0.c)] T.sl_uint8 (fun (v_2 : Sl) (h : Heap) =>
  callK Tryz.prog .slice F.slices_Concat_byte_byte #[(.slice v_2.a v_2.n v_2.c)] (fun (v_3 : Sl) (h : Heap) =>
  R (.slice v_3.a v_3.n v_3.c) h) h)) h
def codec_Writer_Run_1.ann : Ann := (.seq .leaf (.seq .leaf .leaf))
theorem codec_Writer_Run_1.eq (b0 : Sl) (R : Value → Heap → Prop) (h : Heap) : codec_Writer_Run_1.body b0 R h = evFn Tryz.prog Tryz.f81 codec_Writer_Run_1.ann [(.slice b0.a b0.n b0.c)] R h := by kernel_rfl
theorem codec_Writer_Run_1.calls {b0 : Sl} {R : Value → Heap → Prop} {h : Heap} (H : codec_Writer_Run_1.body b0 R h) : HC Tryz.prog F.codec_Writer_Run_1 #[(.slice b0.a b0.n b0.c)] R h :=
  evFn_sound mixed Tryz.func81 (by kernel_rfl) (codec_Writer_Run_1.eq b0 R h ▸ H)

/-! (*zugzwang/codec.Writer).Run -/
def codec_Writer_Run.body (w0 : Option Addr) (l1 : Sl) (R : Value → Heap → Prop) (h : Heap) : Prop :=
  buildK Tryz.prog (Instr.build T.codec_ruleasl_byte #[(1, ((Value.func (.func F.codec_Writer_Run_1) #[] #[])))]) (fun (v_1 : Array Value) =>
  callK Tryz.prog (.int .i64) F.codec_put_byte #[(.pointer w0), (.agg v_1), (.slice l1.a l1.n l1.c)] (fun (v_2 : Int) (h : Heap) =>
  R (.int .i64 v_2) h) h)
def codec_Writer_Run.ann : Ann := (.seq .leaf (.seq .leaf .leaf))
theorem codec_Writer_Run.eq (w0 : Option Addr) (l1 : Sl) (R : Value → Heap → Prop) (h : Heap) : codec_Writer_Run.body w0 l1 R h = evFn Tryz.prog Tryz.f67 codec_Writer_Run.ann [(.pointer w0), (.slice l1.a l1.n l1.c)] R h := by kernel_rfl
theorem codec_Writer_Run.calls {w0 : Option Addr} {l1 : Sl} {R : Value → Heap → Prop} {h : Heap} (H : codec_Writer_Run.body w0 l1 R h) : HC Tryz.prog F.codec_Writer_Run #[(.pointer w0), (.slice l1.a l1.n l1.c)] R h :=
  evFn_sound mixed Tryz.func67 (by kernel_rfl) (codec_Writer_Run.eq w0 l1 R h ▸ H)

/-! zugzwang/codec.put[zugzwang/api.Tag] -/
def codec_put_api_Tag.body (w0 : Option Addr) (r1 : Array Value) (l2 : Sl) (R : Value → Heap → Prop) (h : Heap) : Prop :=
  newK h r1 T.codec_ruleaapi_Tag (fun (r_1 : Option Addr) (h : Heap) =>
  if w0.isNone = true then
  R (.int .i64 1) h
  else
  derefK w0 (fun (a_2 : Addr) =>
  fldK ((some a_2)) 0 (fun (a_3 : Addr) =>
  fldK ((some a_3)) 0 (fun (a_4 : Addr) =>
  loadK .bool h ((some a_4)) (fun (v_5 : Bool) =>
  if (!v_5) = true then
  R (.int .i64 1) h
  else
  joinW (fun (s_6 : Unit) (h : Heap) =>
  derefK w0 (fun (a_7 : Addr) =>
  fldK ((some a_7)) 0 (fun (a_8 : Addr) =>
  fldK ((some a_8)) 1 (fun (a_9 : Addr) =>
  loadK (.int .i64) h ((some a_9)) (fun (v_10 : Int) =>
  R (.int .i64 v_10) h)))))
  (fun J_11 =>
  loopW (fun X_13 (s_12 : Int) (h : Heap) =>
  if (decide (s_12 < ((l2.n : Int)))) = true then
  idxK l2 s_12 (sizeOfT Tryz.prog T.api_Tag) (fun (a_14 : Addr) =>
  loadAggK (sizeOfT Tryz.prog T.api_Tag) h ((some a_14)) (fun (v_15 : Array Value) =>
  newK h (zerosOf Tryz.prog T.api_Tag) T.api_Tag (fun (x_16 : Option Addr) (h : Heap) =>
  storeAggK (sizeOfT Tryz.prog T.api_Tag) h x_16 v_15 (fun (h : Heap) =>
  derefK w0 (fun (a_17 : Addr) =>
  fldK ((some a_17)) 0 (fun (a_18 : Addr) =>
  callK Tryz.prog .bool F.codec_state_sound #[(.pointer ((some a_18)))] (fun (v_19 : Bool) (h : Heap) =>
  if (!v_19) = true then
  J_11 () h
  else
  joinW (fun (s_20 : Bool) (h : Heap) =>
  if s_20 = true then
  derefK w0 (fun (a_21 : Addr) =>
  fldK ((some a_21)) 0 (fun (a_22 : Addr) =>
  callK Tryz.prog (.int .i64) F.codec_state_spoil #[(.pointer ((some a_22))), (.int .i64 2)] (fun (v_23 : Int) (h : Heap) =>
  R (.int .i64 v_23) h) h))
  else
  fldK r_1 1 (fun (a_24 : Addr) =>
  loadK .any h ((some a_24)) (fun (v_25 : Value) =>
  loadAggK (sizeOfT Tryz.prog T.api_Tag) h x_16 (fun (v_26 : Array Value) =>
  callV Tryz.prog .slice v_25 #[(.agg v_26)] (fun (v_27 : Sl) (h : Heap) =>
  derefK w0 (fun (a_28 : Addr) =>
  fldK ((some a_28)) 2 (fun (a_29 : Addr) =>
  loadK .slice h ((some a_29)) (fun (v_30 : Sl) =>
  if (decide ((IntKind.i64.wrap (((v_30.n : Int)) + ((v_27.n : Int)))) > 65536)) = true then
  derefK w0 (fun (a_31 : Addr) =>
  fldK ((some a_31)) 0 (fun (a_32 : Addr) =>
  callK Tryz.prog (.int .i64) F.codec_state_spoil #[(.pointer ((some a_32))), (.int .i64 3)] (fun (v_33 : Int) (h : Heap) =>
  R (.int .i64 v_33) h) h))
  else
  derefK w0 (fun (a_34 : Addr) =>
  fldK ((some a_34)) 2 (fun (a_35 : Addr) =>
  loadK .slice h ((some a_35)) (fun (v_36 : Sl) =>
  opK Tryz.prog .slice (Builtin.append_ #[T.sl_uint8, T.sl_uint8] T.sl_uint8 #[(.slice v_36.a v_36.n v_36.c), (.slice v_27.a v_27.n v_27.c)]) (fun (v_37 : Sl) (h : Heap) =>
  derefK w0 (fun (a_38 : Addr) =>
  fldK ((some a_38)) 2 (fun (a_39 : Addr) =>
  storeK h ((some a_39)) (.slice v_37.a v_37.n v_37.c) (fun (h : Heap) =>
  X_13 (IntKind.i64.wrap (s_12 + 1)) h)))) h))))))) h))))
  (fun J_40 =>
  fldK r_1 0 (fun (a_41 : Addr) =>
  loadK .any h ((some a_41)) (fun (v_42 : Value) =>
  eqK Tryz.prog (binSem .neq T.func135 (.tmp 32) (.const Value.nilFunc) v_42 Value.nilFunc) (fun (v_43 : Bool) =>
  if v_43 = true then
  fldK r_1 0 (fun (a_44 : Addr) =>
  loadK .any h ((some a_44)) (fun (v_45 : Value) =>
  loadAggK (sizeOfT Tryz.prog T.api_Tag) h x_16 (fun (v_46 : Array Value) =>
  callV Tryz.prog .bool v_45 #[(.agg v_46)] (fun (v_47 : Bool) (h : Heap) =>
  J_40 (!v_47) h) h)))
  else
  J_40 false h))))) h))))))
  else
  J_11 () h) 0 h))))))
def codec_put_api_Tag.ann : Ann := (.seq .leaf (.seq (.seq .leaf (.cond (.seq .leaf .leaf) .leaf)) (.join [] (.seq .leaf (.block (.loop [(22, (.int .i64))] (.seq .leaf (.seq (.cond .leaf .leaf) (.seq (.block (.seq .leaf (.seq (.seq .leaf (.cond .leaf .leaf)) (.seq (.join [(40, .bool)] .leaf (.cond (.seq .leaf .leaf) .leaf)) (.seq .leaf (.seq (.seq .leaf (.cond (.seq .leaf .leaf) .leaf)) .leaf)))))) .leaf)))))) (.seq .leaf .leaf))))
theorem codec_put_api_Tag.eq (w0 : Option Addr) (r1 : Array Value) (l2 : Sl) (R : Value → Heap → Prop) (h : Heap) : codec_put_api_Tag.body w0 r1 l2 R h = evFn Tryz.prog Tryz.f84 codec_put_api_Tag.ann [(.pointer w0), (.agg r1), (.slice l2.a l2.n l2.c)] R h := by kernel_rfl
theorem codec_put_api_Tag.calls {w0 : Option Addr} {r1 : Array Value} {l2 : Sl} {R : Value → Heap → Prop} {h : Heap} (H : codec_put_api_Tag.body w0 r1 l2 R h) : HC Tryz.prog F.codec_put_api_Tag #[(.pointer w0), (.agg r1), (.slice l2.a l2.n l2.c)] R h :=
  evFn_sound mixed Tryz.func84 (by kernel_rfl) (codec_put_api_Tag.eq w0 r1 l2 R h ▸ H)

/-! (*zugzwang/codec.Writer).Tag$1 -/
def codec_Writer_Tag_1.body (t0 : Array Value) (R : Value → Heap → Prop) (h : Heap) : Prop :=
  newK h t0 T.api_Tag (fun (t_1 : Option Addr) (h : Heap) =>
  sliceArrK t_1 32 none none none (sizeOfT Tryz.prog T.uint8) (fun (v_2 : Sl) =>
  R (.slice v_2.a v_2.n v_2.c) h))
def codec_Writer_Tag_1.ann : Ann := (.seq .leaf (.seq .leaf .leaf))
theorem codec_Writer_Tag_1.eq (t0 : Array Value) (R : Value → Heap → Prop) (h : Heap) : codec_Writer_Tag_1.body t0 R h = evFn Tryz.prog Tryz.f85 codec_Writer_Tag_1.ann [(.agg t0)] R h := by kernel_rfl
theorem codec_Writer_Tag_1.calls {t0 : Array Value} {R : Value → Heap → Prop} {h : Heap} (H : codec_Writer_Tag_1.body t0 R h) : HC Tryz.prog F.codec_Writer_Tag_1 #[(.agg t0)] R h :=
  evFn_sound mixed Tryz.func85 (by kernel_rfl) (codec_Writer_Tag_1.eq t0 R h ▸ H)

/-! (*zugzwang/codec.Writer).Tag -/
def codec_Writer_Tag.body (w0 : Option Addr) (l1 : Sl) (R : Value → Heap → Prop) (h : Heap) : Prop :=
  buildK Tryz.prog (Instr.build T.codec_ruleaapi_Tag #[(1, ((Value.func (.func F.codec_Writer_Tag_1) #[] #[])))]) (fun (v_1 : Array Value) =>
  callK Tryz.prog (.int .i64) F.codec_put_api_Tag #[(.pointer w0), (.agg v_1), (.slice l1.a l1.n l1.c)] (fun (v_2 : Int) (h : Heap) =>
  R (.int .i64 v_2) h) h)
def codec_Writer_Tag.ann : Ann := (.seq .leaf (.seq .leaf .leaf))
theorem codec_Writer_Tag.eq (w0 : Option Addr) (l1 : Sl) (R : Value → Heap → Prop) (h : Heap) : codec_Writer_Tag.body w0 l1 R h = evFn Tryz.prog Tryz.f68 codec_Writer_Tag.ann [(.pointer w0), (.slice l1.a l1.n l1.c)] R h := by kernel_rfl
theorem codec_Writer_Tag.calls {w0 : Option Addr} {l1 : Sl} {R : Value → Heap → Prop} {h : Heap} (H : codec_Writer_Tag.body w0 l1 R h) : HC Tryz.prog F.codec_Writer_Tag #[(.pointer w0), (.slice l1.a l1.n l1.c)] R h :=
  evFn_sound mixed Tryz.func68 (by kernel_rfl) (codec_Writer_Tag.eq w0 l1 R h ▸ H)

/-! zugzwang/digest.begun -/
def digest_begun.body  (R : Value → Heap → Prop) (h : Heap) : Prop :=
  newK h (zerosOf Tryz.prog T.digest_state) T.digest_state (fun (v_1 : Option Addr) (h : Heap) =>
  buildK Tryz.prog (Instr.build T.digest_state #[(0, (.int .u32 1779033703)), (1, (.int .u32 3144134277)), (2, (.int .u32 1013904242)), (3, (.int .u32 2773480762)), (4, (.int .u32 1359893119)), (5, (.int .u32 2600822924)), (6, (.int .u32 528734635)), (7, (.int .u32 1541459225))]) (fun (v_2 : Array Value) =>
  storeAggK (sizeOfT Tryz.prog T.digest_state) h v_1 v_2 (fun (h : Heap) =>
  quietK Tryz.prog .agg (Instr.loadAt T.digest_state (.pointer v_1)) (fun (r_3 : Array Value) =>
  R (.agg r_3) h) h)))
def digest_begun.ann : Ann := (.seq .leaf (.seq .leaf .leaf))
theorem digest_begun.eq  (R : Value → Heap → Prop) (h : Heap) : digest_begun.body  R h = evFn Tryz.prog Tryz.f113 digest_begun.ann [] R h := by kernel_rfl
theorem digest_begun.calls  {R : Value → Heap → Prop} {h : Heap} (H : digest_begun.body  R h) : HC Tryz.prog F.digest_begun #[] R h :=
  evFn_sound mixed Tryz.func113 (by kernel_rfl) (digest_begun.eq  R h ▸ H)

/-! zugzwang/digest.New -/
def digest_New.body  (R : Value → Heap → Prop) (h : Heap) : Prop :=
  callK Tryz.prog .agg F.digest_begun #[] (fun (v_1 : Array Value) (h : Heap) =>
  buildK Tryz.prog (Instr.build T.digest_Hasher #[(0, (.agg v_1)), (3, (.bool true))]) (fun (v_2 : Array Value) =>
  newK h v_2 T.digest_Hasher (fun (v_3 : Option Addr) (h : Heap) =>
  R (.pointer v_3) h))) h
def digest_New.ann : Ann := (.seq .leaf (.seq .leaf .leaf))
theorem digest_New.eq  (R : Value → Heap → Prop) (h : Heap) : digest_New.body  R h = evFn Tryz.prog Tryz.f103 digest_New.ann [] R h := by kernel_rfl
theorem digest_New.calls  {R : Value → Heap → Prop} {h : Heap} (H : digest_New.body  R h) : HC Tryz.prog F.digest_New #[] R h :=
  evFn_sound mixed Tryz.func103 (by kernel_rfl) (digest_New.eq  R h ▸ H)

/-! (*zugzwang/bits.row).take -/
def bits_row_take.body (r0 : Option Addr) (R : Value → Heap → Prop) (h : Heap) : Prop :=
  derefK r0 (fun (a_1 : Addr) =>
  fldK ((some a_1)) 0 (fun (a_2 : Addr) =>
  loadK .slice h ((some a_2)) (fun (v_3 : Sl) =>
  idxK v_3 0 (sizeOfT Tryz.prog T.uint8) (fun (a_4 : Addr) =>
  loadK (.int .u8) h ((some a_4)) (fun (v_5 : Int) =>
  shiftK 24
  (derefK r0 (fun (a_6 : Addr) =>
  fldK ((some a_6)) 0 (fun (a_7 : Addr) =>
  loadK .slice h ((some a_7)) (fun (v_8 : Sl) =>
  idxK v_8 1 (sizeOfT Tryz.prog T.uint8) (fun (a_9 : Addr) =>
  loadK (.int .u8) h ((some a_9)) (fun (v_10 : Int) =>
  shiftK 16
  (derefK r0 (fun (a_11 : Addr) =>
  fldK ((some a_11)) 0 (fun (a_12 : Addr) =>
  loadK .slice h ((some a_12)) (fun (v_13 : Sl) =>
  idxK v_13 2 (sizeOfT Tryz.prog T.uint8) (fun (a_14 : Addr) =>
  loadK (.int .u8) h ((some a_14)) (fun (v_15 : Int) =>
  shiftK 8
  (derefK r0 (fun (a_16 : Addr) =>
  fldK ((some a_16)) 0 (fun (a_17 : Addr) =>
  loadK .slice h ((some a_17)) (fun (v_18 : Sl) =>
  idxK v_18 3 (sizeOfT Tryz.prog T.uint8) (fun (a_19 : Addr) =>
  loadK (.int .u8) h ((some a_19)) (fun (v_20 : Int) =>
  derefK r0 (fun (a_21 : Addr) =>
  fldK ((some a_21)) 0 (fun (a_22 : Addr) =>
  loadK .slice h ((some a_22)) (fun (v_23 : Sl) =>
  sliceK v_23 (some 4) none none (sizeOfT Tryz.prog T.uint8) (fun (v_24 : Sl) =>
  derefK r0 (fun (a_25 : Addr) =>
  fldK ((some a_25)) 0 (fun (a_26 : Addr) =>
  storeK h ((some a_26)) (.slice v_24.a v_24.n v_24.c) (fun (h : Heap) =>
  R (.int .u32 (IntKind.u32.wrap (BitVec.ofInt (IntKind.bits .u32) (IntKind.u32.wrap (BitVec.ofInt (IntKind.bits .u32) (IntKind.u32.wrap (BitVec.ofInt (IntKind.bits .u32) (IntKind.u32.wrap ((IntKind.u32.wrap v_5) * 2 ^ min (Int.toNat 24) (IntKind.bits .u32))) ||| BitVec.ofInt (IntKind.bits .u32) (IntKind.u32.wrap ((IntKind.u32.wrap v_10) * 2 ^ min (Int.toNat 16) (IntKind.bits .u32)))).toNat) ||| BitVec.ofInt (IntKind.bits .u32) (IntKind.u32.wrap ((IntKind.u32.wrap v_15) * 2 ^ min (Int.toNat 8) (IntKind.bits .u32)))).toNat) ||| BitVec.ofInt (IntKind.bits .u32) (IntKind.u32.wrap v_20)).toNat)) h))))))))))))))))))))))))))))))
def bits_row_take.ann : Ann := (.seq .leaf (.seq .leaf (.seq .leaf (.seq .leaf .leaf))))
theorem bits_row_take.eq (r0 : Option Addr) (R : Value → Heap → Prop) (h : Heap) : bits_row_take.body r0 R h = evFn Tryz.prog Tryz.f126 bits_row_take.ann [(.pointer r0)] R h := by kernel_rfl
theorem bits_row_take.calls {r0 : Option Addr} {R : Value → Heap → Prop} {h : Heap} (H : bits_row_take.body r0 R h) : HC Tryz.prog F.bits_row_take #[(.pointer r0)] R h :=
  evFn_sound mixed Tryz.func126 (by kernel_rfl) (bits_row_take.eq r0 R h ▸ H)

/-! zugzwang/bits.Words -/
def bits_Words.body (b0 : Sl) (R : Value → Heap → Prop) (h : Heap) : Prop :=
  divK 4
  (if ((Int.tmod ((b0.n : Int)) 4) != 0) = true then
  R (.tuple #[(.slice none 0 0), (.int .i64 4)]) h
  else
  callK Tryz.prog .slice F.slices_Clone_byte_byte #[(.slice b0.a b0.n b0.c)] (fun (v_1 : Sl) (h : Heap) =>
  buildK Tryz.prog (Instr.build T.bits_row #[(0, (.slice v_1.a v_1.n v_1.c))]) (fun (v_2 : Array Value) =>
  buildK Tryz.prog (Instr.build T.bits_reader #[(0, (.agg v_2))]) (fun (v_3 : Array Value) =>
  newK h (zerosOf Tryz.prog T.bits_reader) T.bits_reader (fun (r_4 : Option Addr) (h : Heap) =>
  storeAggK (sizeOfT Tryz.prog T.bits_reader) h r_4 v_3 (fun (h : Heap) =>
  divK 4
  (loopW (fun X_6 (s_5 : Int) (h : Heap) =>
  if (decide (s_5 < (IntKind.i64.wrap (Int.tdiv ((b0.n : Int)) 4)))) = true then
  fldK r_4 1 (fun (a_7 : Addr) =>
  fldK r_4 0 (fun (a_8 : Addr) =>
  loadK .slice h ((some a_7)) (fun (v_9 : Sl) =>
  callK Tryz.prog (.int .u32) F.bits_row_take #[(.pointer ((some a_8)))] (fun (v_10 : Int) (h : Heap) =>
  stillK .slice h ((some a_7)) v_9 ∧
  newSlK h 1 #[(.int .u32 v_10)] T.uint32 (fun (v_11 : Sl) (h : Heap) =>
  opK Tryz.prog .slice (Builtin.append_ #[T.sl_uint32, T.sl_uint32] T.sl_uint32 #[(.slice v_9.a v_9.n v_9.c), (.slice v_11.a v_11.n v_11.c)]) (fun (v_12 : Sl) (h : Heap) =>
  fldK r_4 1 (fun (a_13 : Addr) =>
  storeK h ((some a_13)) (.slice v_12.a v_12.n v_12.c) (fun (h : Heap) =>
  X_6 (IntKind.i64.wrap (s_5 + 1)) h))) h)) h)))
  else
  fldK r_4 1 (fun (a_14 : Addr) =>
  loadK .slice h ((some a_14)) (fun (v_15 : Sl) =>
  R (.tuple #[(.slice v_15.a v_15.n v_15.c), (.int .i64 0)]) h))) 0 h)))))) h)
def bits_Words.ann : Ann := (.seq .leaf (.seq (.seq .leaf (.cond (.seq .leaf .leaf) .leaf)) (.seq .leaf (.seq (.seq .leaf (.block (.loop [(16, (.int .i64))] (.seq .leaf (.seq (.cond .leaf .leaf) (.seq (.block (.any (.loc 0 (.loc 2 (.st 1 224 (.last 3 (.last 4 (.last 5 (.loc 6 (.last 7 .done)))))))))) .leaf)))))) (.seq .leaf .leaf)))))
theorem bits_Words.eq (b0 : Sl) (R : Value → Heap → Prop) (h : Heap) : bits_Words.body b0 R h = evFn Tryz.prog Tryz.f119 bits_Words.ann [(.slice b0.a b0.n b0.c)] R h := by kernel_rfl
theorem bits_Words.calls {b0 : Sl} {R : Value → Heap → Prop} {h : Heap} (H : bits_Words.body b0 R h) : HC Tryz.prog F.bits_Words #[(.slice b0.a b0.n b0.c)] R h :=
  evFn_sound mixed Tryz.func119 (by kernel_rfl) (bits_Words.eq b0 R h ▸ H)

/-! math/bits.RotateLeft32 -/
def math_bits_RotateLeft32.body (x0 : Int) (k1 : Int) (R : Value → Heap → Prop) (h : Heap) : Prop :=
  shiftK (IntKind.u64.wrap (BitVec.ofInt (IntKind.bits .u64) (IntKind.u64.wrap k1) &&& BitVec.ofInt (IntKind.bits .u64) 31).toNat)
  (shiftK (IntKind.u64.wrap (32 - (IntKind.u64.wrap (BitVec.ofInt (IntKind.bits .u64) (IntKind.u64.wrap k1) &&& BitVec.ofInt (IntKind.bits .u64) 31).toNat)))
  (R (.int .u32 (IntKind.u32.wrap (BitVec.ofInt (IntKind.bits .u32) (IntKind.u32.wrap (x0 * 2 ^ min (Int.toNat (IntKind.u64.wrap (BitVec.ofInt (IntKind.bits .u64) (IntKind.u64.wrap k1) &&& BitVec.ofInt (IntKind.bits .u64) 31).toNat)) (IntKind.bits .u32))) ||| BitVec.ofInt (IntKind.bits .u32) (Int.fdiv x0 (2 ^ min (Int.toNat (IntKind.u64.wrap (32 - (IntKind.u64.wrap (BitVec.ofInt (IntKind.bits .u64) (IntKind.u64.wrap k1) &&& BitVec.ofInt (IntKind.bits .u64) 31).toNat)))) (IntKind.bits .u32)))).toNat)) h))
def math_bits_RotateLeft32.ann : Ann := (.seq .leaf (.seq .leaf (.seq .leaf .leaf)))
theorem math_bits_RotateLeft32.eq (x0 : Int) (k1 : Int) (R : Value → Heap → Prop) (h : Heap) : math_bits_RotateLeft32.body x0 k1 R h = evFn Tryz.prog Tryz.f129 math_bits_RotateLeft32.ann [(.int .u32 x0), (.int .i64 k1)] R h := by kernel_rfl
theorem math_bits_RotateLeft32.calls {x0 : Int} {k1 : Int} {R : Value → Heap → Prop} {h : Heap} (H : math_bits_RotateLeft32.body x0 k1 R h) : HC Tryz.prog F.math_bits_RotateLeft32 #[(.int .u32 x0), (.int .i64 k1)] R h :=
  evFn_sound mixed Tryz.func129 (by kernel_rfl) (math_bits_RotateLeft32.eq x0 k1 R h ▸ H)

/-! zugzwang/bits.Turn -/
def bits_Turn.body (x0 : Int) (n1 : Int) (R : Value → Heap → Prop) (h : Heap) : Prop :=
  divK 32
  (callK Tryz.prog (.int .u32) F.math_bits_RotateLeft32 #[(.int .u32 x0), (.int .i64 (IntKind.i64.wrap (0 - (Int.tmod n1 32))))] (fun (v_1 : Int) (h : Heap) =>
  R (.int .u32 v_1) h) h)
def bits_Turn.ann : Ann := (.seq .leaf (.seq .leaf .leaf))
theorem bits_Turn.eq (x0 : Int) (n1 : Int) (R : Value → Heap → Prop) (h : Heap) : bits_Turn.body x0 n1 R h = evFn Tryz.prog Tryz.f127 bits_Turn.ann [(.int .u32 x0), (.int .i64 n1)] R h := by kernel_rfl
theorem bits_Turn.calls {x0 : Int} {n1 : Int} {R : Value → Heap → Prop} {h : Heap} (H : bits_Turn.body x0 n1 R h) : HC Tryz.prog F.bits_Turn #[(.int .u32 x0), (.int .i64 n1)] R h :=
  evFn_sound mixed Tryz.func127 (by kernel_rfl) (bits_Turn.eq x0 n1 R h ▸ H)

/-! zugzwang/bits.Mix -/
def bits_Mix.body (x0 : Int) (turns1 : Sl) (R : Value → Heap → Prop) (h : Heap) : Prop :=
  loopW (fun X_2 (s_1 : Int × Int) (h : Heap) =>
  if (decide (s_1.2 < ((turns1.n : Int)))) = true then
  idxK turns1 s_1.2 (sizeOfT Tryz.prog T.int) (fun (a_3 : Addr) =>
  loadK (.int .i64) h ((some a_3)) (fun (v_4 : Int) =>
  callK Tryz.prog (.int .u32) F.bits_Turn #[(.int .u32 x0), (.int .i64 v_4)] (fun (v_5 : Int) (h : Heap) =>
  X_2 (IntKind.u32.wrap (BitVec.ofInt (IntKind.bits .u32) s_1.1 ^^^ BitVec.ofInt (IntKind.bits .u32) v_5).toNat, IntKind.i64.wrap (s_1.2 + 1)) h) h))
  else
  R (.int .u32 s_1.1) h) (0, 0) h
def bits_Mix.ann : Ann := (.seq .leaf (.seq (.seq .leaf (.block (.loop [(4, (.int .u32)), (9, (.int .i64))] (.seq .leaf (.seq (.cond .leaf .leaf) (.seq (.block (.seq .leaf .leaf)) .leaf)))))) (.seq .leaf .leaf)))
theorem bits_Mix.eq (x0 : Int) (turns1 : Sl) (R : Value → Heap → Prop) (h : Heap) : bits_Mix.body x0 turns1 R h = evFn Tryz.prog Tryz.f120 bits_Mix.ann [(.int .u32 x0), (.slice turns1.a turns1.n turns1.c)] R h := by kernel_rfl
theorem bits_Mix.calls {x0 : Int} {turns1 : Sl} {R : Value → Heap → Prop} {h : Heap} (H : bits_Mix.body x0 turns1 R h) : HC Tryz.prog F.bits_Mix #[(.int .u32 x0), (.slice turns1.a turns1.n turns1.c)] R h :=
  evFn_sound mixed Tryz.func120 (by kernel_rfl) (bits_Mix.eq x0 turns1 R h ▸ H)

/-! zugzwang/bits.Shift -/
def bits_Shift.body (x0 : Int) (n1 : Int) (R : Value → Heap → Prop) (h : Heap) : Prop :=
  shiftK (if n1 < 0 then 0 else n1)
  (R (.int .u32 (Int.fdiv x0 (2 ^ min (Int.toNat (if n1 < 0 then 0 else n1)) (IntKind.bits .u32)))) h)
def bits_Shift.ann : Ann := (.seq .leaf (.seq .leaf .leaf))
theorem bits_Shift.eq (x0 : Int) (n1 : Int) (R : Value → Heap → Prop) (h : Heap) : bits_Shift.body x0 n1 R h = evFn Tryz.prog Tryz.f121 bits_Shift.ann [(.int .u32 x0), (.int .i64 n1)] R h := by kernel_rfl
theorem bits_Shift.calls {x0 : Int} {n1 : Int} {R : Value → Heap → Prop} {h : Heap} (H : bits_Shift.body x0 n1 R h) : HC Tryz.prog F.bits_Shift #[(.int .u32 x0), (.int .i64 n1)] R h :=
  evFn_sound mixed Tryz.func121 (by kernel_rfl) (bits_Shift.eq x0 n1 R h ▸ H)

/-! zugzwang/bits.Sum -/
def bits_Sum.body (words0 : Sl) (R : Value → Heap → Prop) (h : Heap) : Prop :=
  loopW (fun X_2 (s_1 : Int × Int) (h : Heap) =>
  if (decide (s_1.2 < ((words0.n : Int)))) = true then
  idxK words0 s_1.2 (sizeOfT Tryz.prog T.uint32) (fun (a_3 : Addr) =>
  loadK (.int .u32) h ((some a_3)) (fun (v_4 : Int) =>
  X_2 (IntKind.u32.wrap (s_1.1 + v_4), IntKind.i64.wrap (s_1.2 + 1)) h))
  else
  R (.int .u32 s_1.1) h) (0, 0) h
def bits_Sum.ann : Ann := (.seq .leaf (.seq (.seq .leaf (.block (.loop [(2, (.int .u32)), (7, (.int .i64))] (.seq .leaf (.seq (.cond .leaf .leaf) (.seq (.block (.seq .leaf .leaf)) .leaf)))))) (.seq .leaf .leaf)))
theorem bits_Sum.eq (words0 : Sl) (R : Value → Heap → Prop) (h : Heap) : bits_Sum.body words0 R h = evFn Tryz.prog Tryz.f122 bits_Sum.ann [(.slice words0.a words0.n words0.c)] R h := by kernel_rfl
theorem bits_Sum.calls {words0 : Sl} {R : Value → Heap → Prop} {h : Heap} (H : bits_Sum.body words0 R h) : HC Tryz.prog F.bits_Sum #[(.slice words0.a words0.n words0.c)] R h :=
  evFn_sound mixed Tryz.func122 (by kernel_rfl) (bits_Sum.eq words0 R h ▸ H)

/-! zugzwang/digest.constants -/
def digest_constants.body  (R : Value → Heap → Prop) (h : Heap) : Prop :=
  newK h (zerosOf Tryz.prog T.a64_uint32) T.a64_uint32 (fun (v_1 : Option Addr) (h : Heap) =>
  buildK Tryz.prog (Instr.build T.a64_uint32 #[(0, (.int .u32 1116352408)), (1, (.int .u32 1899447441)), (2, (.int .u32 3049323471)), (3, (.int .u32 3921009573)), (4, (.int .u32 961987163)), (5, (.int .u32 1508970993)), (6, (.int .u32 2453635748)), (7, (.int .u32 2870763221)), (8, (.int .u32 3624381080)), (9, (.int .u32 310598401)), (10, (.int .u32 607225278)), (11, (.int .u32 1426881987)), (12, (.int .u32 1925078388)), (13, (.int .u32 2162078206)), (14, (.int .u32 2614888103)), (15, (.int .u32 3248222580)), (16, (.int .u32 3835390401)), (17, (.int .u32 4022224774)), (18, (.int .u32 264347078)), (19, (.int .u32 604807628)), (20, (.int .u32 770255983)), (21, (.int .u32 1249150122)), (22, (.int .u32 1555081692)), (23, (.int .u32 1996064986)), (24, (.int .u32 2554220882)), (25, (.int .u32 2821834349)), (26, (.int .u32 2952996808)), (27, (.int .u32 3210313671)), (28, (.int .u32 3336571891)), (29, (.int .u32 3584528711)), (30, (.int .u32 113926993)), (31, (.int .u32 338241895)), (32, (.int .u32 666307205)), (33, (.int .u32 773529912)), (34, (.int .u32 1294757372)), (35, (.int .u32 1396182291)), (36, (.int .u32 1695183700)), (37, (.int .u32 1986661051)), (38, (.int .u32 2177026350)), (39, (.int .u32 2456956037)), (40, (.int .u32 2730485921)), (41, (.int .u32 2820302411)), (42, (.int .u32 3259730800)), (43, (.int .u32 3345764771)), (44, (.int .u32 3516065817)), (45, (.int .u32 3600352804)), (46, (.int .u32 4094571909)), (47, (.int .u32 275423344)), (48, (.int .u32 430227734)), (49, (.int .u32 506948616)), (50, (.int .u32 659060556)), (51, (.int .u32 883997877)), (52, (.int .u32 958139571)), (53, (.int .u32 1322822218)), (54, (.int .u32 1537002063)), (55, (.int .u32 1747873779)), (56, (.int .u32 1955562222)), (57, (.int .u32 2024104815)), (58, (.int .u32 2227730452)), (59, (.int .u32 2361852424)), (60, (.int .u32 2428436474)), (61, (.int .u32 2756734187)), (62, (.int .u32 3204031479)), (63, (.int .u32 3329325298))]) (fun (v_2 : Array Value) =>
  storeAggK (sizeOfT Tryz.prog T.a64_uint32) h v_1 v_2 (fun (h : Heap) =>
  quietK Tryz.prog .agg (Instr.loadAt T.a64_uint32 (.pointer v_1)) (fun (r_3 : Array Value) =>
  R (.agg r_3) h) h)))
def digest_constants.ann : Ann := (.seq .leaf (.seq .leaf .leaf))
theorem digest_constants.eq  (R : Value → Heap → Prop) (h : Heap) : digest_constants.body  R h = evFn Tryz.prog Tryz.f123 digest_constants.ann [] R h := by kernel_rfl
theorem digest_constants.calls  {R : Value → Heap → Prop} {h : Heap} (H : digest_constants.body  R h) : HC Tryz.prog F.digest_constants #[] R h :=
  evFn_sound mixed Tryz.func123 (by kernel_rfl) (digest_constants.eq  R h ▸ H)

/-! zugzwang/bits.Choose -/
def bits_Choose.body (x0 : Int) (a1 : Int) (b2 : Int) (R : Value → Heap → Prop) (h : Heap) : Prop :=
  R (.int .u32 (IntKind.u32.wrap (BitVec.ofInt (IntKind.bits .u32) b2 ^^^ BitVec.ofInt (IntKind.bits .u32) (IntKind.u32.wrap (BitVec.ofInt (IntKind.bits .u32) x0 &&& BitVec.ofInt (IntKind.bits .u32) (IntKind.u32.wrap (BitVec.ofInt (IntKind.bits .u32) a1 ^^^ BitVec.ofInt (IntKind.bits .u32) b2).toNat)).toNat)).toNat)) h
def bits_Choose.ann : Ann := (.seq .leaf (.seq .leaf .leaf))
theorem bits_Choose.eq (x0 : Int) (a1 : Int) (b2 : Int) (R : Value → Heap → Prop) (h : Heap) : bits_Choose.body x0 a1 b2 R h = evFn Tryz.prog Tryz.f128 bits_Choose.ann [(.int .u32 x0), (.int .u32 a1), (.int .u32 b2)] R h := by kernel_rfl
theorem bits_Choose.calls {x0 : Int} {a1 : Int} {b2 : Int} {R : Value → Heap → Prop} {h : Heap} (H : bits_Choose.body x0 a1 b2 R h) : HC Tryz.prog F.bits_Choose #[(.int .u32 x0), (.int .u32 a1), (.int .u32 b2)] R h :=
  evFn_sound mixed Tryz.func128 (by kernel_rfl) (bits_Choose.eq x0 a1 b2 R h ▸ H)

/-! (*zugzwang/digest.state).step -/
def digest_state_step.body (s0 : Option Addr) (w1 : Int) (k2 : Int) (R : Value → Heap → Prop) (h : Heap) : Prop :=
  derefK s0 (fun (a_1 : Addr) =>
  idxArrK ((some a_1)) 8 7 (sizeOfT Tryz.prog T.uint32) (fun (a_2 : Addr) =>
  derefK s0 (fun (a_3 : Addr) =>
  idxArrK ((some a_3)) 8 4 (sizeOfT Tryz.prog T.uint32) (fun (a_4 : Addr) =>
  derefK s0 (fun (a_5 : Addr) =>
  idxArrK ((some a_5)) 8 4 (sizeOfT Tryz.prog T.uint32) (fun (a_6 : Addr) =>
  derefK s0 (fun (a_7 : Addr) =>
  idxArrK ((some a_7)) 8 5 (sizeOfT Tryz.prog T.uint32) (fun (a_8 : Addr) =>
  derefK s0 (fun (a_9 : Addr) =>
  idxArrK ((some a_9)) 8 6 (sizeOfT Tryz.prog T.uint32) (fun (a_10 : Addr) =>
  loadK (.int .u32) h ((some a_2)) (fun (v_11 : Int) =>
  loadK (.int .u32) h ((some a_4)) (fun (v_12 : Int) =>
  loadK (.int .u32) h ((some a_6)) (fun (v_13 : Int) =>
  loadK (.int .u32) h ((some a_8)) (fun (v_14 : Int) =>
  loadK (.int .u32) h ((some a_10)) (fun (v_15 : Int) =>
  newSlK h 3 #[(.int .i64 6), (.int .i64 11), (.int .i64 25)] T.int (fun (v_16 : Sl) (h : Heap) =>
  callK Tryz.prog (.int .u32) F.bits_Mix #[(.int .u32 v_12), (.slice v_16.a v_16.n v_16.c)] (fun (v_17 : Int) (h : Heap) =>
  stillK (.int .u32) h ((some a_10)) v_15 ∧
  stillK (.int .u32) h ((some a_8)) v_14 ∧
  stillK (.int .u32) h ((some a_6)) v_13 ∧
  stillK (.int .u32) h ((some a_2)) v_11 ∧
  callK Tryz.prog (.int .u32) F.bits_Choose #[(.int .u32 v_13), (.int .u32 v_14), (.int .u32 v_15)] (fun (v_18 : Int) (h : Heap) =>
  stillK (.int .u32) h ((some a_2)) v_11 ∧
  newSlK h 5 #[(.int .u32 v_11), (.int .u32 v_17), (.int .u32 v_18), (.int .u32 k2), (.int .u32 w1)] T.uint32 (fun (v_19 : Sl) (h : Heap) =>
  callK Tryz.prog (.int .u32) F.bits_Sum #[(.slice v_19.a v_19.n v_19.c)] (fun (v_20 : Int) (h : Heap) =>
  derefK s0 (fun (a_21 : Addr) =>
  idxArrK ((some a_21)) 8 0 (sizeOfT Tryz.prog T.uint32) (fun (a_22 : Addr) =>
  derefK s0 (fun (a_23 : Addr) =>
  idxArrK ((some a_23)) 8 0 (sizeOfT Tryz.prog T.uint32) (fun (a_24 : Addr) =>
  derefK s0 (fun (a_25 : Addr) =>
  idxArrK ((some a_25)) 8 1 (sizeOfT Tryz.prog T.uint32) (fun (a_26 : Addr) =>
  derefK s0 (fun (a_27 : Addr) =>
  idxArrK ((some a_27)) 8 0 (sizeOfT Tryz.prog T.uint32) (fun (a_28 : Addr) =>
  derefK s0 (fun (a_29 : Addr) =>
  idxArrK ((some a_29)) 8 2 (sizeOfT Tryz.prog T.uint32) (fun (a_30 : Addr) =>
  derefK s0 (fun (a_31 : Addr) =>
  idxArrK ((some a_31)) 8 1 (sizeOfT Tryz.prog T.uint32) (fun (a_32 : Addr) =>
  derefK s0 (fun (a_33 : Addr) =>
  idxArrK ((some a_33)) 8 2 (sizeOfT Tryz.prog T.uint32) (fun (a_34 : Addr) =>
  loadK (.int .u32) h ((some a_22)) (fun (v_35 : Int) =>
  loadK (.int .u32) h ((some a_24)) (fun (v_36 : Int) =>
  loadK (.int .u32) h ((some a_26)) (fun (v_37 : Int) =>
  loadK (.int .u32) h ((some a_28)) (fun (v_38 : Int) =>
  loadK (.int .u32) h ((some a_30)) (fun (v_39 : Int) =>
  loadK (.int .u32) h ((some a_32)) (fun (v_40 : Int) =>
  loadK (.int .u32) h ((some a_34)) (fun (v_41 : Int) =>
  newSlK h 3 #[(.int .i64 2), (.int .i64 13), (.int .i64 22)] T.int (fun (v_42 : Sl) (h : Heap) =>
  callK Tryz.prog (.int .u32) F.bits_Mix #[(.int .u32 v_35), (.slice v_42.a v_42.n v_42.c)] (fun (v_43 : Int) (h : Heap) =>
  stillK (.int .u32) h ((some a_34)) v_41 ∧
  stillK (.int .u32) h ((some a_32)) v_40 ∧
  stillK (.int .u32) h ((some a_30)) v_39 ∧
  stillK (.int .u32) h ((some a_28)) v_38 ∧
  stillK (.int .u32) h ((some a_26)) v_37 ∧
  stillK (.int .u32) h ((some a_24)) v_36 ∧
  newSlK h 2 #[(.int .u32 v_43), (.int .u32 (IntKind.u32.wrap (BitVec.ofInt (IntKind.bits .u32) (IntKind.u32.wrap (BitVec.ofInt (IntKind.bits .u32) (IntKind.u32.wrap (BitVec.ofInt (IntKind.bits .u32) v_36 &&& BitVec.ofInt (IntKind.bits .u32) v_37).toNat) ||| BitVec.ofInt (IntKind.bits .u32) (IntKind.u32.wrap (BitVec.ofInt (IntKind.bits .u32) v_38 &&& BitVec.ofInt (IntKind.bits .u32) v_39).toNat)).toNat) ||| BitVec.ofInt (IntKind.bits .u32) (IntKind.u32.wrap (BitVec.ofInt (IntKind.bits .u32) v_40 &&& BitVec.ofInt (IntKind.bits .u32) v_41).toNat)).toNat))] T.uint32 (fun (v_44 : Sl) (h : Heap) =>
  callK Tryz.prog (.int .u32) F.bits_Sum #[(.slice v_44.a v_44.n v_44.c)] (fun (v_45 : Int) (h : Heap) =>
  derefK s0 (fun (a_46 : Addr) =>
  sliceArrK ((some a_46)) 8 (some 1) none none (sizeOfT Tryz.prog T.uint32) (fun (v_47 : Sl) =>
  derefK s0 (fun (a_48 : Addr) =>
  sliceArrK ((some a_48)) 8 none (some 7) none (sizeOfT Tryz.prog T.uint32) (fun (v_49 : Sl) =>
  opK Tryz.prog (.int .i64) (Builtin.copy_ #[T.sl_uint32, T.sl_uint32] T.int #[(.slice v_47.a v_47.n v_47.c), (.slice v_49.a v_49.n v_49.c)]) (fun (v_50 : Int) (h : Heap) =>
  derefK s0 (fun (a_51 : Addr) =>
  idxArrK ((some a_51)) 8 4 (sizeOfT Tryz.prog T.uint32) (fun (a_52 : Addr) =>
  derefK s0 (fun (a_53 : Addr) =>
  loadK (.int .u32) h ((some a_52)) (fun (v_54 : Int) =>
  idxArrK ((some a_53)) 8 4 (sizeOfT Tryz.prog T.uint32) (fun (a_55 : Addr) =>
  storeK h ((some a_55)) (.int .u32 (IntKind.u32.wrap (v_54 + v_20))) (fun (h : Heap) =>
  derefK s0 (fun (a_56 : Addr) =>
  idxArrK ((some a_56)) 8 0 (sizeOfT Tryz.prog T.uint32) (fun (a_57 : Addr) =>
  storeK h ((some a_57)) (.int .u32 (IntKind.u32.wrap (v_20 + v_45))) (fun (h : Heap) =>
  R (.tuple #[]) h)))))))))) h))))) h)) h))))))))))))))))))))))) h)) h) h))))))))))))))))
def digest_state_step.ann : Ann := (.seq (.any (.loc 0 (.loc 1 (.loc 2 (.loc 4 (.loc 5 (.loc 6 (.loc 10 (.loc 11 (.loc 12 (.loc 14 (.loc 15 (.loc 16 (.loc 18 (.loc 19 (.loc 20 (.loc 23 (.loc 24 (.st 3 234881024 (.st 7 239075840 (.st 13 239075328 (.st 17 239075328 (.st 21 239075328 (.last 8 (.last 9 (.last 22 (.last 25 (.last 26 (.loc 27 .done))))))))))))))))))))))))))))) (.seq (.any (.loc 0 (.loc 1 (.loc 2 (.loc 6 (.loc 7 (.loc 8 (.loc 10 (.loc 11 (.loc 12 (.loc 15 (.loc 16 (.loc 17 (.loc 19 (.loc 20 (.loc 21 (.loc 25 (.loc 26 (.loc 27 (.loc 29 (.loc 30 (.loc 31 (.st 3 240518168608 (.st 9 257714831360 (.st 13 257714831360 (.loc 14 (.st 18 257723203584 (.st 22 257723203584 (.loc 23 (.loc 24 (.st 28 266287972352 (.st 32 266287972352 (.loc 33 (.loc 34 (.last 4 (.last 5 (.last 35 (.last 36 (.loc 37 .done))))))))))))))))))))))))))))))))))))))) (.seq (.any (.loc 0 (.loc 1 (.loc 2 (.loc 3 (.loc 4 (.loc 5 (.last 6 .done)))))))) (.seq (.any (.loc 0 (.loc 1 (.loc 2 (.loc 4 (.loc 6 (.st 3 416 (.loc 5 (.loc 7 (.last 8 .done)))))))))) .leaf))))
theorem digest_state_step.eq (s0 : Option Addr) (w1 : Int) (k2 : Int) (R : Value → Heap → Prop) (h : Heap) : digest_state_step.body s0 w1 k2 R h = evFn Tryz.prog Tryz.f124 digest_state_step.ann [(.pointer s0), (.int .u32 w1), (.int .u32 k2)] R h := by kernel_rfl
theorem digest_state_step.calls {s0 : Option Addr} {w1 : Int} {k2 : Int} {R : Value → Heap → Prop} {h : Heap} (H : digest_state_step.body s0 w1 k2 R h) : HC Tryz.prog F.digest_state_step #[(.pointer s0), (.int .u32 w1), (.int .u32 k2)] R h :=
  evFn_sound mixed Tryz.func124 (by kernel_rfl) (digest_state_step.eq s0 w1 k2 R h ▸ H)

/-! (*zugzwang/digest.state).take -/
def digest_state_take.body (s0 : Option Addr) (b1 : Sl) (R : Value → Heap → Prop) (h : Heap) : Prop :=
  newK h (zerosOf Tryz.prog T.a64_uint32) T.a64_uint32 (fun (w_1 : Option Addr) (h : Heap) =>
  callK Tryz.prog (Kd.pair .slice (.int .i64)) F.bits_Words #[(.slice b1.a b1.n b1.c)] (fun (v_2 : Sl × Int) (h : Heap) =>
  sliceArrK w_1 64 none none none (sizeOfT Tryz.prog T.uint32) (fun (v_3 : Sl) =>
  opK Tryz.prog (.int .i64) (Builtin.copy_ #[T.sl_uint32, T.sl_uint32] T.int #[(.slice v_3.a v_3.n v_3.c), (.slice v_2.1.a v_2.1.n v_2.1.c)]) (fun (v_4 : Int) (h : Heap) =>
  loopW (fun X_6 (s_5 : Int) (h : Heap) =>
  if (decide (s_5 < 64)) = true then
  idxArrK w_1 64 (IntKind.i64.wrap (s_5 - 15)) (sizeOfT Tryz.prog T.uint32) (fun (a_7 : Addr) =>
  idxArrK w_1 64 (IntKind.i64.wrap (s_5 - 15)) (sizeOfT Tryz.prog T.uint32) (fun (a_8 : Addr) =>
  loadK (.int .u32) h ((some a_7)) (fun (v_9 : Int) =>
  loadK (.int .u32) h ((some a_8)) (fun (v_10 : Int) =>
  newSlK h 2 #[(.int .i64 7), (.int .i64 18)] T.int (fun (v_11 : Sl) (h : Heap) =>
  callK Tryz.prog (.int .u32) F.bits_Mix #[(.int .u32 v_9), (.slice v_11.a v_11.n v_11.c)] (fun (v_12 : Int) (h : Heap) =>
  stillK (.int .u32) h ((some a_8)) v_10 ∧
  callK Tryz.prog (.int .u32) F.bits_Shift #[(.int .u32 v_10), (.int .i64 3)] (fun (v_13 : Int) (h : Heap) =>
  idxArrK w_1 64 (IntKind.i64.wrap (s_5 - 2)) (sizeOfT Tryz.prog T.uint32) (fun (a_14 : Addr) =>
  idxArrK w_1 64 (IntKind.i64.wrap (s_5 - 2)) (sizeOfT Tryz.prog T.uint32) (fun (a_15 : Addr) =>
  loadK (.int .u32) h ((some a_14)) (fun (v_16 : Int) =>
  loadK (.int .u32) h ((some a_15)) (fun (v_17 : Int) =>
  newSlK h 2 #[(.int .i64 17), (.int .i64 19)] T.int (fun (v_18 : Sl) (h : Heap) =>
  callK Tryz.prog (.int .u32) F.bits_Mix #[(.int .u32 v_16), (.slice v_18.a v_18.n v_18.c)] (fun (v_19 : Int) (h : Heap) =>
  stillK (.int .u32) h ((some a_15)) v_17 ∧
  callK Tryz.prog (.int .u32) F.bits_Shift #[(.int .u32 v_17), (.int .i64 10)] (fun (v_20 : Int) (h : Heap) =>
  idxArrK w_1 64 (IntKind.i64.wrap (s_5 - 16)) (sizeOfT Tryz.prog T.uint32) (fun (a_21 : Addr) =>
  idxArrK w_1 64 (IntKind.i64.wrap (s_5 - 7)) (sizeOfT Tryz.prog T.uint32) (fun (a_22 : Addr) =>
  loadK (.int .u32) h ((some a_21)) (fun (v_23 : Int) =>
  loadK (.int .u32) h ((some a_22)) (fun (v_24 : Int) =>
  newSlK h 4 #[(.int .u32 v_23), (.int .u32 (IntKind.u32.wrap (BitVec.ofInt (IntKind.bits .u32) v_12 ^^^ BitVec.ofInt (IntKind.bits .u32) v_13).toNat)), (.int .u32 v_24), (.int .u32 (IntKind.u32.wrap (BitVec.ofInt (IntKind.bits .u32) v_19 ^^^ BitVec.ofInt (IntKind.bits .u32) v_20).toNat))] T.uint32 (fun (v_25 : Sl) (h : Heap) =>
  callK Tryz.prog (.int .u32) F.bits_Sum #[(.slice v_25.a v_25.n v_25.c)] (fun (v_26 : Int) (h : Heap) =>
  idxArrK w_1 64 s_5 (sizeOfT Tryz.prog T.uint32) (fun (a_27 : Addr) =>
  storeK h ((some a_27)) (.int .u32 v_26) (fun (h : Heap) =>
  X_6 (IntKind.i64.wrap (s_5 + 1)) h))) h)))))) h) h)))))) h) h)))))
  else
  derefK s0 (fun (a_28 : Addr) =>
  loadAggK (sizeOfT Tryz.prog T.digest_state) h ((some a_28)) (fun (v_29 : Array Value) =>
  newK h (zerosOf Tryz.prog T.digest_state) T.digest_state (fun (was_30 : Option Addr) (h : Heap) =>
  storeAggK (sizeOfT Tryz.prog T.digest_state) h was_30 v_29 (fun (h : Heap) =>
  callK Tryz.prog .agg F.digest_constants #[] (fun (v_31 : Array Value) (h : Heap) =>
  loopW (fun X_33 (s_32 : Int) (h : Heap) =>
  if (decide (s_32 < 64)) = true then
  idxValK (.int .u32) v_31 64 s_32 (sizeOfT Tryz.prog T.uint32) (fun (v_34 : Int) =>
  idxArrK w_1 64 s_32 (sizeOfT Tryz.prog T.uint32) (fun (a_35 : Addr) =>
  loadK (.int .u32) h ((some a_35)) (fun (v_36 : Int) =>
  callK Tryz.prog .unit F.digest_state_step #[(.pointer s0), (.int .u32 v_36), (.int .u32 v_34)] (fun (v_37 : Unit) (h : Heap) =>
  X_33 (IntKind.i64.wrap (s_32 + 1)) h) h)))
  else
  loopW (fun X_39 (s_38 : Int) (h : Heap) =>
  if (decide (s_38 < 8)) = true then
  derefK s0 (fun (a_40 : Addr) =>
  idxArrK ((some a_40)) 8 s_38 (sizeOfT Tryz.prog T.uint32) (fun (a_41 : Addr) =>
  idxArrK was_30 8 s_38 (sizeOfT Tryz.prog T.uint32) (fun (a_42 : Addr) =>
  derefK s0 (fun (a_43 : Addr) =>
  loadK (.int .u32) h ((some a_41)) (fun (v_44 : Int) =>
  loadK (.int .u32) h ((some a_42)) (fun (v_45 : Int) =>
  idxArrK ((some a_43)) 8 s_38 (sizeOfT Tryz.prog T.uint32) (fun (a_46 : Addr) =>
  storeK h ((some a_46)) (.int .u32 (IntKind.u32.wrap (v_44 + v_45))) (fun (h : Heap) =>
  X_39 (IntKind.i64.wrap (s_38 + 1)) h))))))))
  else
  R (.tuple #[]) h) 0 h) 0 h) h))))) 16 h) h)) h)
def digest_state_take.ann : Ann := (.seq .leaf (.seq .leaf (.seq .leaf (.seq (.seq .leaf (.block (.loop [(7, (.int .i64))] (.seq (.seq .leaf (.cond .leaf .leaf)) (.seq (.block (.seq (.any (.loc 0 (.loc 1 (.loc 2 (.loc 6 (.loc 7 (.loc 8 (.st 3 7200 (.st 9 7168 (.last 4 (.last 5 (.last 10 (.loc 11 (.loc 12 .done)))))))))))))) (.seq (.any (.loc 0 (.loc 1 (.loc 2 (.loc 6 (.loc 7 (.loc 8 (.st 3 7200 (.st 9 7168 (.last 4 (.last 5 (.last 10 (.loc 11 (.loc 12 .done)))))))))))))) (.any (.loc 0 (.loc 1 (.loc 2 (.loc 3 (.loc 5 (.loc 6 (.loc 7 (.loc 8 (.loc 10 (.st 4 30720 (.st 9 30720 (.last 11 (.last 12 (.loc 13 (.last 14 .done))))))))))))))))))) .leaf))))) (.seq .leaf (.seq (.seq .leaf (.block (.loop [(68, (.int .i64))] (.seq .leaf (.seq (.cond .leaf .leaf) (.seq (.block (.seq .leaf .leaf)) .leaf)))))) (.seq .leaf (.block (.loop [(79, (.int .i64))] (.seq .leaf (.seq (.cond .leaf .leaf) (.seq (.block (.seq .leaf (.any (.loc 0 (.loc 1 (.loc 2 (.loc 3 (.loc 5 (.loc 6 (.loc 9 (.st 4 3328 (.st 7 3328 (.loc 8 (.loc 10 (.last 11 .done))))))))))))))) .leaf))))))))))))
theorem digest_state_take.eq (s0 : Option Addr) (b1 : Sl) (R : Value → Heap → Prop) (h : Heap) : digest_state_take.body s0 b1 R h = evFn Tryz.prog Tryz.f114 digest_state_take.ann [(.pointer s0), (.slice b1.a b1.n b1.c)] R h := by kernel_rfl
theorem digest_state_take.calls {s0 : Option Addr} {b1 : Sl} {R : Value → Heap → Prop} {h : Heap} (H : digest_state_take.body s0 b1 R h) : HC Tryz.prog F.digest_state_take #[(.pointer s0), (.slice b1.a b1.n b1.c)] R h :=
  evFn_sound mixed Tryz.func114 (by kernel_rfl) (digest_state_take.eq s0 b1 R h ▸ H)

/-! (*zugzwang/digest.Hasher).all -/
def digest_Hasher_all.body (h0 : Option Addr) (rows1 : Sl) (R : Value → Heap → Prop) (h : Heap) : Prop :=
  loopW (fun X_2 (s_1 : Int) (h : Heap) =>
  if (decide (s_1 < ((rows1.n : Int)))) = true then
  idxK rows1 s_1 (sizeOfT Tryz.prog T.sl_uint8) (fun (a_3 : Addr) =>
  loadK .slice h ((some a_3)) (fun (v_4 : Sl) =>
  derefK h0 (fun (a_5 : Addr) =>
  fldK ((some a_5)) 9 (fun (a_6 : Addr) =>
  loadK (.int .i64) h ((some a_6)) (fun (v_7 : Int) =>
  derefK h0 (fun (a_8 : Addr) =>
  fldK ((some a_8)) 9 (fun (a_9 : Addr) =>
  storeK h ((some a_9)) (.int .i64 (IntKind.i64.wrap (v_7 + ((v_4.n : Int))))) (fun (h : Heap) =>
  derefK h0 (fun (a_10 : Addr) =>
  fldK ((some a_10)) 8 (fun (a_11 : Addr) =>
  loadK .slice h ((some a_11)) (fun (v_12 : Sl) =>
  opK Tryz.prog .slice (Builtin.append_ #[T.sl_uint8, T.sl_uint8] T.sl_uint8 #[(.slice v_12.a v_12.n v_12.c), (.slice v_4.a v_4.n v_4.c)]) (fun (v_13 : Sl) (h : Heap) =>
  derefK h0 (fun (a_14 : Addr) =>
  fldK ((some a_14)) 8 (fun (a_15 : Addr) =>
  storeK h ((some a_15)) (.slice v_13.a v_13.n v_13.c) (fun (h : Heap) =>
  loopW (fun X_17 (s_16 : Unit) (h : Heap) =>
  derefK h0 (fun (a_18 : Addr) =>
  fldK ((some a_18)) 8 (fun (a_19 : Addr) =>
  loadK .slice h ((some a_19)) (fun (v_20 : Sl) =>
  if (decide (((v_20.n : Int)) ≥ 64)) = true then
  derefK h0 (fun (a_21 : Addr) =>
  fldK ((some a_21)) 0 (fun (a_22 : Addr) =>
  derefK h0 (fun (a_23 : Addr) =>
  fldK ((some a_23)) 8 (fun (a_24 : Addr) =>
  loadK .slice h ((some a_24)) (fun (v_25 : Sl) =>
  sliceK v_25 none (some 64) none (sizeOfT Tryz.prog T.uint8) (fun (v_26 : Sl) =>
  callK Tryz.prog .unit F.digest_state_take #[(.pointer ((some a_22))), (.slice v_26.a v_26.n v_26.c)] (fun (v_27 : Unit) (h : Heap) =>
  derefK h0 (fun (a_28 : Addr) =>
  fldK ((some a_28)) 8 (fun (a_29 : Addr) =>
  loadK .slice h ((some a_29)) (fun (v_30 : Sl) =>
  sliceK v_30 (some 64) none none (sizeOfT Tryz.prog T.uint8) (fun (v_31 : Sl) =>
  derefK h0 (fun (a_32 : Addr) =>
  fldK ((some a_32)) 8 (fun (a_33 : Addr) =>
  storeK h ((some a_33)) (.slice v_31.a v_31.n v_31.c) (fun (h : Heap) =>
  X_17 () h)))))))) h))))))
  else
  X_2 (IntKind.i64.wrap (s_1 + 1)) h)))) () h)))) h)))))))))))
  else
  derefK h0 (fun (a_34 : Addr) =>
  fldK ((some a_34)) 8 (fun (a_35 : Addr) =>
  loadK .slice h ((some a_35)) (fun (v_36 : Sl) =>
  callK Tryz.prog .slice F.slices_Clone_byte_byte #[(.slice v_36.a v_36.n v_36.c)] (fun (v_37 : Sl) (h : Heap) =>
  derefK h0 (fun (a_38 : Addr) =>
  fldK ((some a_38)) 8 (fun (a_39 : Addr) =>
  storeK h ((some a_39)) (.slice v_37.a v_37.n v_37.c) (fun (h : Heap) =>
  R (.tuple #[]) h)))) h)))) 0 h
def digest_Hasher_all.ann : Ann := (.seq (.seq .leaf (.block (.loop [(8, (.int .i64))] (.seq .leaf (.seq (.cond .leaf .leaf) (.seq (.block (.seq .leaf (.seq .leaf (.seq .leaf (.block (.loop [] (.seq (.seq .leaf (.cond .leaf .leaf)) (.block (.seq (.any (.loc 0 (.loc 1 (.loc 2 (.loc 3 (.loc 4 (.loc 5 (.st 6 384 (.loc 7 (.last 8 .done)))))))))) .leaf))))))))) .leaf)))))) .leaf)
theorem digest_Hasher_all.eq (h0 : Option Addr) (rows1 : Sl) (R : Value → Heap → Prop) (h : Heap) : digest_Hasher_all.body h0 rows1 R h = evFn Tryz.prog Tryz.f104 digest_Hasher_all.ann [(.pointer h0), (.slice rows1.a rows1.n rows1.c)] R h := by kernel_rfl
theorem digest_Hasher_all.calls {h0 : Option Addr} {rows1 : Sl} {R : Value → Heap → Prop} {h : Heap} (H : digest_Hasher_all.body h0 rows1 R h) : HC Tryz.prog F.digest_Hasher_all #[(.pointer h0), (.slice rows1.a rows1.n rows1.c)] R h :=
  evFn_sound mixed Tryz.func104 (by kernel_rfl) (digest_Hasher_all.eq h0 rows1 R h ▸ H)

/-! (*zugzwang/bits.row).put -/
def bits_row_put.body (r0 : Option Addr) (w1 : Int) (R : Value → Heap → Prop) (h : Heap) : Prop :=
  derefK r0 (fun (a_1 : Addr) =>
  fldK ((some a_1)) 0 (fun (a_2 : Addr) =>
  loadK .slice h ((some a_2)) (fun (v_3 : Sl) =>
  shiftK 24
  (shiftK 16
  (shiftK 8
  (newSlK h 4 #[(.int .u8 (IntKind.u8.wrap (Int.fdiv w1 (2 ^ min (Int.toNat 24) (IntKind.bits .u32))))), (.int .u8 (IntKind.u8.wrap (Int.fdiv w1 (2 ^ min (Int.toNat 16) (IntKind.bits .u32))))), (.int .u8 (IntKind.u8.wrap (Int.fdiv w1 (2 ^ min (Int.toNat 8) (IntKind.bits .u32))))), (.int .u8 (IntKind.u8.wrap w1))] T.uint8 (fun (v_4 : Sl) (h : Heap) =>
  opK Tryz.prog .slice (Builtin.append_ #[T.sl_uint8, T.sl_uint8] T.sl_uint8 #[(.slice v_3.a v_3.n v_3.c), (.slice v_4.a v_4.n v_4.c)]) (fun (v_5 : Sl) (h : Heap) =>
  derefK r0 (fun (a_6 : Addr) =>
  fldK ((some a_6)) 0 (fun (a_7 : Addr) =>
  storeK h ((some a_7)) (.slice v_5.a v_5.n v_5.c) (fun (h : Heap) =>
  R (.tuple #[]) h)))) h)))))))
def bits_row_put.ann : Ann := .leaf
theorem bits_row_put.eq (r0 : Option Addr) (w1 : Int) (R : Value → Heap → Prop) (h : Heap) : bits_row_put.body r0 w1 R h = evFn Tryz.prog Tryz.f125 bits_row_put.ann [(.pointer r0), (.int .u32 w1)] R h := by kernel_rfl
theorem bits_row_put.calls {r0 : Option Addr} {w1 : Int} {R : Value → Heap → Prop} {h : Heap} (H : bits_row_put.body r0 w1 R h) : HC Tryz.prog F.bits_row_put #[(.pointer r0), (.int .u32 w1)] R h :=
  evFn_sound mixed Tryz.func125 (by kernel_rfl) (bits_row_put.eq r0 w1 R h ▸ H)

/-! zugzwang/bits.Bytes -/
def bits_Bytes.body (words0 : Sl) (R : Value → Heap → Prop) (h : Heap) : Prop :=
  newK h (zerosOf Tryz.prog T.bits_reader) T.bits_reader (fun (r_1 : Option Addr) (h : Heap) =>
  loopW (fun X_3 (s_2 : Int) (h : Heap) =>
  if (decide (s_2 < ((words0.n : Int)))) = true then
  idxK words0 s_2 (sizeOfT Tryz.prog T.uint32) (fun (a_4 : Addr) =>
  loadK (.int .u32) h ((some a_4)) (fun (v_5 : Int) =>
  fldK r_1 0 (fun (a_6 : Addr) =>
  callK Tryz.prog .unit F.bits_row_put #[(.pointer ((some a_6))), (.int .u32 v_5)] (fun (v_7 : Unit) (h : Heap) =>
  X_3 (IntKind.i64.wrap (s_2 + 1)) h) h)))
  else
  fldK r_1 0 (fun (a_8 : Addr) =>
  fldK ((some a_8)) 0 (fun (a_9 : Addr) =>
  loadK .slice h ((some a_9)) (fun (v_10 : Sl) =>
  R (.slice v_10.a v_10.n v_10.c) h)))) 0 h)
def bits_Bytes.ann : Ann := (.seq .leaf (.seq .leaf (.seq (.seq .leaf (.block (.loop [(8, (.int .i64))] (.seq .leaf (.seq (.cond .leaf .leaf) (.seq (.block (.seq .leaf .leaf)) .leaf)))))) (.seq .leaf .leaf))))
theorem bits_Bytes.eq (words0 : Sl) (R : Value → Heap → Prop) (h : Heap) : bits_Bytes.body words0 R h = evFn Tryz.prog Tryz.f116 bits_Bytes.ann [(.slice words0.a words0.n words0.c)] R h := by kernel_rfl
theorem bits_Bytes.calls {words0 : Sl} {R : Value → Heap → Prop} {h : Heap} (H : bits_Bytes.body words0 R h) : HC Tryz.prog F.bits_Bytes #[(.slice words0.a words0.n words0.c)] R h :=
  evFn_sound mixed Tryz.func116 (by kernel_rfl) (bits_Bytes.eq words0 R h ▸ H)

/-! zugzwang/digest.fill -/
def digest_fill.body (n0 : Int) (R : Value → Heap → Prop) (h : Heap) : Prop :=
  divK 64
  (divK 64
  (opK Tryz.prog .slice (Instr.makeSlice T.sl_uint8 (.int .i64 (IntKind.i64.wrap (1 + (Int.tmod (IntKind.i64.wrap (119 - (Int.tmod n0 64))) 64)))) (.int .i64 128)) (fun (v_1 : Sl) (h : Heap) =>
  idxK v_1 0 (sizeOfT Tryz.prog T.uint8) (fun (a_2 : Addr) =>
  storeK h ((some a_2)) (.int .u8 128) (fun (h : Heap) =>
  shiftK 32
  (newSlK h 2 #[(.int .u32 (IntKind.u32.wrap (Int.fdiv (IntKind.u64.wrap (IntKind.i64.wrap (8 * n0))) (2 ^ min (Int.toNat 32) (IntKind.bits .u64))))), (.int .u32 (IntKind.u32.wrap (IntKind.u64.wrap (IntKind.i64.wrap (8 * n0)))))] T.uint32 (fun (v_3 : Sl) (h : Heap) =>
  callK Tryz.prog .slice F.bits_Bytes #[(.slice v_3.a v_3.n v_3.c)] (fun (v_4 : Sl) (h : Heap) =>
  opK Tryz.prog .slice (Builtin.append_ #[T.sl_uint8, T.sl_uint8] T.sl_uint8 #[(.slice v_1.a v_1.n v_1.c), (.slice v_4.a v_4.n v_4.c)]) (fun (v_5 : Sl) (h : Heap) =>
  R (.slice v_5.a v_5.n v_5.c) h) h) h))))) h))
def digest_fill.ann : Ann := (.seq .leaf (.seq .leaf (.seq .leaf (.seq .leaf (.seq .leaf .leaf)))))
theorem digest_fill.eq (n0 : Int) (R : Value → Heap → Prop) (h : Heap) : digest_fill.body n0 R h = evFn Tryz.prog Tryz.f115 digest_fill.ann [(.int .i64 n0)] R h := by kernel_rfl
theorem digest_fill.calls {n0 : Int} {R : Value → Heap → Prop} {h : Heap} (H : digest_fill.body n0 R h) : HC Tryz.prog F.digest_fill #[(.int .i64 n0)] R h :=
  evFn_sound mixed Tryz.func115 (by kernel_rfl) (digest_fill.eq n0 R h ▸ H)

/-! (*zugzwang/digest.Hasher).ended -/
def digest_Hasher_ended.body (h0 : Option Addr) (R : Value → Heap → Prop) (h : Heap) : Prop :=
  newK h (zerosOf Tryz.prog T.api_Tag) T.api_Tag (fun (t_1 : Option Addr) (h : Heap) =>
  derefK h0 (fun (a_2 : Addr) =>
  fldK ((some a_2)) 9 (fun (a_3 : Addr) =>
  loadK (.int .i64) h ((some a_3)) (fun (v_4 : Int) =>
  callK Tryz.prog .slice F.digest_fill #[(.int .i64 v_4)] (fun (v_5 : Sl) (h : Heap) =>
  newSlK h 1 #[(.slice v_5.a v_5.n v_5.c)] T.sl_uint8 (fun (v_6 : Sl) (h : Heap) =>
  callK Tryz.prog .unit F.digest_Hasher_all #[(.pointer h0), (.slice v_6.a v_6.n v_6.c)] (fun (v_7 : Unit) (h : Heap) =>
  sliceArrK t_1 32 none none none (sizeOfT Tryz.prog T.uint8) (fun (v_8 : Sl) =>
  derefK h0 (fun (a_9 : Addr) =>
  fldK ((some a_9)) 0 (fun (a_10 : Addr) =>
  sliceArrK ((some a_10)) 8 none none none (sizeOfT Tryz.prog T.uint32) (fun (v_11 : Sl) =>
  callK Tryz.prog .slice F.bits_Bytes #[(.slice v_11.a v_11.n v_11.c)] (fun (v_12 : Sl) (h : Heap) =>
  opK Tryz.prog (.int .i64) (Builtin.copy_ #[T.sl_uint8, T.sl_uint8] T.int #[(.slice v_8.a v_8.n v_8.c), (.slice v_12.a v_12.n v_12.c)]) (fun (v_13 : Int) (h : Heap) =>
  loadAggK (sizeOfT Tryz.prog T.api_Tag) h t_1 (fun (v_14 : Array Value) =>
  storeAggK (sizeOfT Tryz.prog T.api_Tag) h t_1 v_14 (fun (h : Heap) =>
  quietK Tryz.prog .agg (Instr.loadAt T.api_Tag (.pointer t_1)) (fun (r_15 : Array Value) =>
  R (.agg r_15) h) h))) h) h))))) h)) h))))
def digest_Hasher_ended.ann : Ann := (.seq .leaf (.seq .leaf (.seq (.any (.loc 0 (.loc 1 (.loc 2 (.loc 3 (.loc 4 (.last 5 (.last 6 .done)))))))) (.seq .leaf .leaf))))
theorem digest_Hasher_ended.eq (h0 : Option Addr) (R : Value → Heap → Prop) (h : Heap) : digest_Hasher_ended.body h0 R h = evFn Tryz.prog Tryz.f105 digest_Hasher_ended.ann [(.pointer h0)] R h := by kernel_rfl
theorem digest_Hasher_ended.calls {h0 : Option Addr} {R : Value → Heap → Prop} {h : Heap} (H : digest_Hasher_ended.body h0 R h) : HC Tryz.prog F.digest_Hasher_ended #[(.pointer h0)] R h :=
  evFn_sound mixed Tryz.func105 (by kernel_rfl) (digest_Hasher_ended.eq h0 R h ▸ H)

/-! zugzwang/digest.Of -/
def digest_Of.body (rows0 : Sl) (R : Value → Heap → Prop) (h : Heap) : Prop :=
  newK h (zerosOf Tryz.prog T.api_Tag) T.api_Tag (fun (v_1 : Option Addr) (h : Heap) =>
  callK Tryz.prog .ptr F.digest_New #[] (fun (v_2 : Option Addr) (h : Heap) =>
  callK Tryz.prog .unit F.digest_Hasher_all #[(.pointer v_2), (.slice rows0.a rows0.n rows0.c)] (fun (v_3 : Unit) (h : Heap) =>
  callK Tryz.prog .agg F.digest_Hasher_ended #[(.pointer v_2)] (fun (v_4 : Array Value) (h : Heap) =>
  storeAggK (sizeOfT Tryz.prog T.api_Tag) h v_1 v_4 (fun (h : Heap) =>
  quietK Tryz.prog .agg (Instr.loadAt T.api_Tag (.pointer v_1)) (fun (r_5 : Array Value) =>
  R (.agg r_5) h) h)) h) h) h)
def digest_Of.ann : Ann := (.seq .leaf (.seq .leaf (.seq .leaf (.seq .leaf .leaf))))
theorem digest_Of.eq (rows0 : Sl) (R : Value → Heap → Prop) (h : Heap) : digest_Of.body rows0 R h = evFn Tryz.prog Tryz.f86 digest_Of.ann [(.slice rows0.a rows0.n rows0.c)] R h := by kernel_rfl
theorem digest_Of.calls {rows0 : Sl} {R : Value → Heap → Prop} {h : Heap} (H : digest_Of.body rows0 R h) : HC Tryz.prog F.digest_Of #[(.slice rows0.a rows0.n rows0.c)] R h :=
  evFn_sound mixed Tryz.func86 (by kernel_rfl) (digest_Of.eq rows0 R h ▸ H)

/-! zugzwang/tags.eight -/
def tags_eight.body (n0 : Int) (R : Value → Heap → Prop) (h : Heap) : Prop :=
  loopW (fun X_2 (s_1 : Sl × Int) (h : Heap) =>
  if (decide (s_1.2 < 8)) = true then
  shiftK (IntKind.i64.wrap (56 - (IntKind.i64.wrap (8 * s_1.2))))
  (newSlK h 1 #[(.int .u8 (IntKind.u8.wrap (Int.fdiv (IntKind.u64.wrap n0) (2 ^ min (Int.toNat (IntKind.i64.wrap (56 - (IntKind.i64.wrap (8 * s_1.2))))) (IntKind.bits .u64)))))] T.uint8 (fun (v_3 : Sl) (h : Heap) =>
  opK Tryz.prog .slice (Builtin.append_ #[T.sl_uint8, T.sl_uint8] T.sl_uint8 #[(.slice s_1.1.a s_1.1.n s_1.1.c), (.slice v_3.a v_3.n v_3.c)]) (fun (v_4 : Sl) (h : Heap) =>
  X_2 (v_4, IntKind.i64.wrap (s_1.2 + 1)) h) h))
  else
  R (.slice s_1.1.a s_1.1.n s_1.1.c) h) (⟨none, 0, 0⟩, 0) h
def tags_eight.ann : Ann := (.seq .leaf (.seq (.seq .leaf (.block (.loop [(2, .slice), (4, (.int .i64))] (.seq .leaf (.seq (.cond .leaf .leaf) (.seq (.block (.seq .leaf .leaf)) .leaf)))))) (.seq .leaf .leaf)))
theorem tags_eight.eq (n0 : Int) (R : Value → Heap → Prop) (h : Heap) : tags_eight.body n0 R h = evFn Tryz.prog Tryz.f117 tags_eight.ann [(.int .i64 n0)] R h := by kernel_rfl
theorem tags_eight.calls {n0 : Int} {R : Value → Heap → Prop} {h : Heap} (H : tags_eight.body n0 R h) : HC Tryz.prog F.tags_eight #[(.int .i64 n0)] R h :=
  evFn_sound mixed Tryz.func117 (by kernel_rfl) (tags_eight.eq n0 R h ▸ H)

/-! zugzwang/tags.number -/
def tags_number.body (n0 : Int) (R : Value → Heap → Prop) (h : Heap) : Prop :=
  newK h (zerosOf Tryz.prog T.api_Tag) T.api_Tag (fun (t_1 : Option Addr) (h : Heap) =>
  sliceArrK t_1 32 none none none (sizeOfT Tryz.prog T.uint8) (fun (v_2 : Sl) =>
  ((newSlK h 8 #[(.int .u8 122), (.int .u8 117), (.int .u8 103), (.int .u8 122), (.int .u8 119), (.int .u8 97), (.int .u8 110), (.int .u8 103)] T.uint8 (fun (v_3 : Sl) (h : Heap) =>
  ((opK Tryz.prog .slice (convert T.sl_uint8 T.sl_uint8 (.slice v_3.a v_3.n v_3.c)) (fun (v_4 : Sl) (h : Heap) =>
  callK Tryz.prog .slice F.tags_eight #[(.int .i64 n0)] (fun (v_5 : Sl) (h : Heap) =>
  newSlK h 2 #[(.slice v_4.a v_4.n v_4.c), (.slice v_5.a v_5.n v_5.c)] T.sl_uint8 (fun (v_6 : Sl) (h : Heap) =>
  callK Tryz.prog .slice F.slices_Concat_byte_byte #[(.slice v_6.a v_6.n v_6.c)] (fun (v_7 : Sl) (h : Heap) =>
  opK Tryz.prog (.int .i64) (Builtin.copy_ #[T.sl_uint8, T.sl_uint8] T.int #[(.slice v_2.a v_2.n v_2.c), (.slice v_7.a v_7.n v_7.c)]) (fun (v_8 : Int) (h : Heap) =>
  loadAggK (sizeOfT Tryz.prog T.api_Tag) h t_1 (fun (v_9 : Array Value) =>
  storeAggK (sizeOfT Tryz.prog T.api_Tag) h t_1 v_9 (fun (h : Heap) =>
  quietK Tryz.prog .agg (Instr.loadAt T.api_Tag (.pointer t_1)) (fun (r_10 : Array Value) =>
  R (.agg r_10) h) h))) h) h)) h) h) ∧
  (callK Tryz.prog .slice F.tags_eight #[(.int .i64 n0)] (fun (v_11 : Sl) (h : Heap) =>
  opK Tryz.prog .slice (convert T.sl_uint8 T.sl_uint8 (.slice v_3.a v_3.n v_3.c)) (fun (v_12 : Sl) (h : Heap) =>
  newSlK h 2 #[(.slice v_12.a v_12.n v_12.c), (.slice v_11.a v_11.n v_11.c)] T.sl_uint8 (fun (v_13 : Sl) (h : Heap) =>
  callK Tryz.prog .slice F.slices_Concat_byte_byte #[(.slice v_13.a v_13.n v_13.c)] (fun (v_14 : Sl) (h : Heap) =>
  opK Tryz.prog (.int .i64) (Builtin.copy_ #[T.sl_uint8, T.sl_uint8] T.int #[(.slice v_2.a v_2.n v_2.c), (.slice v_14.a v_14.n v_14.c)]) (fun (v_15 : Int) (h : Heap) =>
  loadAggK (sizeOfT Tryz.prog T.api_Tag) h t_1 (fun (v_16 : Array Value) =>
  storeAggK (sizeOfT Tryz.prog T.api_Tag) h t_1 v_16 (fun (h : Heap) =>
  quietK Tryz.prog .agg (Instr.loadAt T.api_Tag (.pointer t_1)) (fun (r_17 : Array Value) =>
  R (.agg r_17) h) h))) h) h)) h) h)))) ∧
  (callK Tryz.prog .slice F.tags_eight #[(.int .i64 n0)] (fun (v_18 : Sl) (h : Heap) =>
  newSlK h 8 #[(.int .u8 122), (.int .u8 117), (.int .u8 103), (.int .u8 122), (.int .u8 119), (.int .u8 97), (.int .u8 110), (.int .u8 103)] T.uint8 (fun (v_19 : Sl) (h : Heap) =>
  opK Tryz.prog .slice (convert T.sl_uint8 T.sl_uint8 (.slice v_19.a v_19.n v_19.c)) (fun (v_20 : Sl) (h : Heap) =>
  newSlK h 2 #[(.slice v_20.a v_20.n v_20.c), (.slice v_18.a v_18.n v_18.c)] T.sl_uint8 (fun (v_21 : Sl) (h : Heap) =>
  callK Tryz.prog .slice F.slices_Concat_byte_byte #[(.slice v_21.a v_21.n v_21.c)] (fun (v_22 : Sl) (h : Heap) =>
  opK Tryz.prog (.int .i64) (Builtin.copy_ #[T.sl_uint8, T.sl_uint8] T.int #[(.slice v_2.a v_2.n v_2.c), (.slice v_22.a v_22.n v_22.c)]) (fun (v_23 : Int) (h : Heap) =>
  loadAggK (sizeOfT Tryz.prog T.api_Tag) h t_1 (fun (v_24 : Array Value) =>
  storeAggK (sizeOfT Tryz.prog T.api_Tag) h t_1 v_24 (fun (h : Heap) =>
  quietK Tryz.prog .agg (Instr.loadAt T.api_Tag (.pointer t_1)) (fun (r_25 : Array Value) =>
  R (.agg r_25) h) h))) h) h)) h)) h))))
def tags_number.ann : Ann := (.seq .leaf (.seq (.any (.loc 0 (.loc 3 (.alt 1 (.alt 2 (.last 4 (.last 5 (.last 6 (.last 7 .done)))) (.last 4 (.last 2 (.last 5 (.last 6 (.last 7 .done)))))) (.last 4 (.last 1 (.last 2 (.last 5 (.last 6 (.last 7 .done)))))))))) (.seq .leaf .leaf)))
theorem tags_number.eq (n0 : Int) (R : Value → Heap → Prop) (h : Heap) : tags_number.body n0 R h = evFn Tryz.prog Tryz.f106 tags_number.ann [(.int .i64 n0)] R h := by kernel_rfl
theorem tags_number.calls {n0 : Int} {R : Value → Heap → Prop} {h : Heap} (H : tags_number.body n0 R h) : HC Tryz.prog F.tags_number #[(.int .i64 n0)] R h :=
  evFn_sound mixed Tryz.func106 (by kernel_rfl) (tags_number.eq n0 R h ▸ H)

/-! (zugzwang/tags.book).ask -/
def tags_book_ask.body (b0 : Array Value) (x1 : Array Value) (R : Value → Heap → Prop) (h : Heap) : Prop :=
  newK h b0 T.tags_book (fun (b_1 : Option Addr) (h : Heap) =>
  newK h x1 T.tags_thing (fun (x_2 : Option Addr) (h : Heap) =>
  newK h (zerosOf Tryz.prog T.api_Tag) T.api_Tag (fun (v_3 : Option Addr) (h : Heap) =>
  fldK b_1 0 (fun (a_4 : Addr) =>
  loadK .map h ((some a_4)) (fun (v_5 : Option Nat) =>
  loadAggK (sizeOfT Tryz.prog T.tags_thing) h x_2 (fun (v_6 : Array Value) =>
  quietK Tryz.prog (Kd.pair (.int .i64) .bool) (Instr.lookup T.map_atags_thing_int (.map v_5) (.agg v_6) true) (fun (v_7 : Int × Bool) =>
  if (!v_7.2) = true then
  fldK b_1 0 (fun (a_8 : Addr) =>
  loadK .map h ((some a_8)) (fun (v_9 : Option Nat) =>
  quietK Tryz.prog (.int .i64) (Builtin.len_ #[T.map_atags_thing_int] T.int #[(.map v_9)]) (fun (v_10 : Int) =>
  fldK b_1 0 (fun (a_11 : Addr) =>
  loadK .map h ((some a_11)) (fun (v_12 : Option Nat) =>
  loadAggK (sizeOfT Tryz.prog T.tags_thing) h x_2 (fun (v_13 : Array Value) =>
  unitK Tryz.prog (Instr.mapUpdate T.map_atags_thing_int (.map v_12) (.agg v_13) (.int .i64 v_10)) (fun (h : Heap) =>
  callK Tryz.prog .agg F.tags_number #[(.int .i64 v_10)] (fun (v_14 : Array Value) (h : Heap) =>
  storeAggK (sizeOfT Tryz.prog T.api_Tag) h v_3 v_14 (fun (h : Heap) =>
  quietK Tryz.prog .agg (Instr.loadAt T.api_Tag (.pointer v_3)) (fun (r_15 : Array Value) =>
  R (.agg r_15) h) h)) h) h)))) h))
  else
  callK Tryz.prog .agg F.tags_number #[(.int .i64 v_7.1)] (fun (v_16 : Array Value) (h : Heap) =>
  storeAggK (sizeOfT Tryz.prog T.api_Tag) h v_3 v_16 (fun (h : Heap) =>
  quietK Tryz.prog .agg (Instr.loadAt T.api_Tag (.pointer v_3)) (fun (r_17 : Array Value) =>
  R (.agg r_17) h) h)) h) h))))))
def tags_book_ask.ann : Ann := (.seq .leaf (.seq .leaf (.seq (.seq .leaf (.cond (.seq .leaf .leaf) .leaf)) (.seq .leaf .leaf))))
theorem tags_book_ask.eq (b0 : Array Value) (x1 : Array Value) (R : Value → Heap → Prop) (h : Heap) : tags_book_ask.body b0 x1 R h = evFn Tryz.prog Tryz.f87 tags_book_ask.ann [(.agg b0), (.agg x1)] R h := by kernel_rfl
theorem tags_book_ask.calls {b0 : Array Value} {x1 : Array Value} {R : Value → Heap → Prop} {h : Heap} (H : tags_book_ask.body b0 x1 R h) : HC Tryz.prog F.tags_book_ask #[(.agg b0), (.agg x1)] R h :=
  evFn_sound mixed Tryz.func87 (by kernel_rfl) (tags_book_ask.eq b0 x1 R h ▸ H)

/-! (*zugzwang/tags.Maker).Sum -/
def tags_Maker_Sum.body (m0 : Option Addr) (rows1 : Sl) (R : Value → Heap → Prop) (h : Heap) : Prop :=
  newK h (zerosOf Tryz.prog T.api_Tag) T.api_Tag (fun (v_1 : Option Addr) (h : Heap) =>
  callK Tryz.prog .bool F.tags_Maker_there #[(.pointer m0)] (fun (v_2 : Bool) (h : Heap) =>
  if (!v_2) = true then
  buildK Tryz.prog (Instr.build T.api_Tag #[]) (fun (v_3 : Array Value) =>
  storeAggK (sizeOfT Tryz.prog T.api_Tag) h v_1 v_3 (fun (h : Heap) =>
  quietK Tryz.prog .agg (Instr.loadAt T.api_Tag (.pointer v_1)) (fun (r_4 : Array Value) =>
  R (.agg r_4) h) h))
  else
  derefK m0 (fun (a_5 : Addr) =>
  fldK ((some a_5)) 1 (fun (a_6 : Addr) =>
  loadK .bool h ((some a_6)) (fun (v_7 : Bool) =>
  if v_7 = true then
  callK Tryz.prog .agg F.digest_Of #[(.slice rows1.a rows1.n rows1.c)] (fun (v_8 : Array Value) (h : Heap) =>
  storeAggK (sizeOfT Tryz.prog T.api_Tag) h v_1 v_8 (fun (h : Heap) =>
  quietK Tryz.prog .agg (Instr.loadAt T.api_Tag (.pointer v_1)) (fun (r_9 : Array Value) =>
  R (.agg r_9) h) h)) h
  else
  derefK m0 (fun (a_10 : Addr) =>
  fldK ((some a_10)) 0 (fun (a_11 : Addr) =>
  loadAggK (sizeOfT Tryz.prog T.tags_book) h ((some a_11)) (fun (v_12 : Array Value) =>
  callK Tryz.prog .slice F.slices_Concat_byte_byte #[(.slice rows1.a rows1.n rows1.c)] (fun (v_13 : Sl) (h : Heap) =>
  stillAggK (sizeOfT Tryz.prog T.tags_book) h ((some a_11)) v_12 ∧
  opK Tryz.prog .str (convert T.sl_uint8 T.string (.slice v_13.a v_13.n v_13.c)) (fun (v_14 : ByteArray) (h : Heap) =>
  buildK Tryz.prog (Instr.build T.tags_thing #[(0, (.int .u8 115)), (2, (.string v_14))]) (fun (v_15 : Array Value) =>
  callK Tryz.prog .agg F.tags_book_ask #[(.agg v_12), (.agg v_15)] (fun (v_16 : Array Value) (h : Heap) =>
  storeAggK (sizeOfT Tryz.prog T.api_Tag) h v_1 v_16 (fun (h : Heap) =>
  quietK Tryz.prog .agg (Instr.loadAt T.api_Tag (.pointer v_1)) (fun (r_17 : Array Value) =>
  R (.agg r_17) h) h)) h)) h) h))))))) h)
def tags_Maker_Sum.ann : Ann := (.seq .leaf (.seq (.block (.seq .leaf (.cond (.seq .leaf .leaf) (.seq .leaf (.cond (.seq .leaf .leaf) .leaf))))) (.seq (.any (.loc 0 (.loc 1 (.loc 2 (.loc 4 (.st 3 768 (.last 5 (.last 6 (.loc 7 (.last 8 (.last 9 .done))))))))))) .leaf)))
theorem tags_Maker_Sum.eq (m0 : Option Addr) (rows1 : Sl) (R : Value → Heap → Prop) (h : Heap) : tags_Maker_Sum.body m0 rows1 R h = evFn Tryz.prog Tryz.f69 tags_Maker_Sum.ann [(.pointer m0), (.slice rows1.a rows1.n rows1.c)] R h := by kernel_rfl
theorem tags_Maker_Sum.calls {m0 : Option Addr} {rows1 : Sl} {R : Value → Heap → Prop} {h : Heap} (H : tags_Maker_Sum.body m0 rows1 R h) : HC Tryz.prog F.tags_Maker_Sum #[(.pointer m0), (.slice rows1.a rows1.n rows1.c)] R h :=
  evFn_sound mixed Tryz.func69 (by kernel_rfl) (tags_Maker_Sum.eq m0 rows1 R h ▸ H)

/-! (*zugzwang/codec.Writer).Out -/
def codec_Writer_Out.body (w0 : Option Addr) (R : Value → Heap → Prop) (h : Heap) : Prop :=
  joinW (fun (s_1 : Bool) (h : Heap) =>
  if s_1 = true then
  R (.tuple #[(.slice none 0 0), (.int .i64 1)]) h
  else
  derefK w0 (fun (a_2 : Addr) =>
  fldK ((some a_2)) 0 (fun (a_3 : Addr) =>
  callK Tryz.prog .bool F.codec_state_sound #[(.pointer ((some a_3)))] (fun (v_4 : Bool) (h : Heap) =>
  if (!v_4) = true then
  derefK w0 (fun (a_5 : Addr) =>
  fldK ((some a_5)) 0 (fun (a_6 : Addr) =>
  fldK ((some a_6)) 1 (fun (a_7 : Addr) =>
  loadK (.int .i64) h ((some a_7)) (fun (v_8 : Int) =>
  R (.tuple #[(.slice none 0 0), (.int .i64 v_8)]) h))))
  else
  derefK w0 (fun (a_9 : Addr) =>
  fldK ((some a_9)) 2 (fun (a_10 : Addr) =>
  loadK .slice h ((some a_10)) (fun (v_11 : Sl) =>
  callK Tryz.prog .slice F.slices_Clone_byte_byte #[(.slice v_11.a v_11.n v_11.c)] (fun (v_12 : Sl) (h : Heap) =>
  R (.tuple #[(.slice v_12.a v_12.n v_12.c), (.int .i64 0)]) h) h)))) h)))
  (fun J_13 =>
  if w0.isNone = true then
  J_13 true h
  else
  derefK w0 (fun (a_14 : Addr) =>
  fldK ((some a_14)) 0 (fun (a_15 : Addr) =>
  fldK ((some a_15)) 0 (fun (a_16 : Addr) =>
  loadK .bool h ((some a_16)) (fun (v_17 : Bool) =>
  J_13 (!v_17) h)))))
def codec_Writer_Out.ann : Ann := (.seq .leaf (.seq (.block (.join [(4, .bool)] .leaf (.cond (.seq .leaf .leaf) (.seq .leaf (.cond (.seq .leaf .leaf) .leaf))))) (.seq .leaf .leaf)))
theorem codec_Writer_Out.eq (w0 : Option Addr) (R : Value → Heap → Prop) (h : Heap) : codec_Writer_Out.body w0 R h = evFn Tryz.prog Tryz.f70 codec_Writer_Out.ann [(.pointer w0)] R h := by kernel_rfl
theorem codec_Writer_Out.calls {w0 : Option Addr} {R : Value → Heap → Prop} {h : Heap} (H : codec_Writer_Out.body w0 R h) : HC Tryz.prog F.codec_Writer_Out #[(.pointer w0)] R h :=
  evFn_sound mixed Tryz.func70 (by kernel_rfl) (codec_Writer_Out.eq w0 R h ▸ H)

/-! (zugzwang/journal.smith).frame -/
def journal_smith_frame.body (s0 : Array Value) (place1 : Int) (b2 : Sl) (R : Value → Heap → Prop) (h : Heap) : Prop :=
  newK h s0 T.journal_smith (fun (s_1 : Option Addr) (h : Heap) =>
  shiftK 24
  (shiftK 16
  (shiftK 8
  (newSlK h 4 #[(.int .u8 (IntKind.u8.wrap (Int.fdiv place1 (2 ^ min (Int.toNat 24) (IntKind.bits .i64))))), (.int .u8 (IntKind.u8.wrap (Int.fdiv place1 (2 ^ min (Int.toNat 16) (IntKind.bits .i64))))), (.int .u8 (IntKind.u8.wrap (Int.fdiv place1 (2 ^ min (Int.toNat 8) (IntKind.bits .i64))))), (.int .u8 (IntKind.u8.wrap place1))] T.uint8 (fun (v_2 : Sl) (h : Heap) =>
  callK Tryz.prog .ptr F.codec_New #[] (fun (v_3 : Option Addr) (h : Heap) =>
  newSlK h 1 #[(.slice b2.a b2.n b2.c)] T.sl_uint8 (fun (v_4 : Sl) (h : Heap) =>
  callK Tryz.prog (.int .i64) F.codec_Writer_Run #[(.pointer v_3), (.slice v_4.a v_4.n v_4.c)] (fun (v_5 : Int) (h : Heap) =>
  fldK s_1 0 (fun (a_6 : Addr) =>
  loadK .ptr h ((some a_6)) (fun (v_7 : Option Addr) =>
  newSlK h 4 #[(.int .u8 102), (.int .u8 105), (.int .u8 108), (.int .u8 101)] T.uint8 (fun (v_8 : Sl) (h : Heap) =>
  opK Tryz.prog .slice (convert T.sl_uint8 T.sl_uint8 (.slice v_8.a v_8.n v_8.c)) (fun (v_9 : Sl) (h : Heap) =>
  newSlK h 3 #[(.slice v_9.a v_9.n v_9.c), (.slice v_2.a v_2.n v_2.c), (.slice b2.a b2.n b2.c)] T.sl_uint8 (fun (v_10 : Sl) (h : Heap) =>
  callK Tryz.prog .agg F.tags_Maker_Sum #[(.pointer v_7), (.slice v_10.a v_10.n v_10.c)] (fun (v_11 : Array Value) (h : Heap) =>
  opK Tryz.prog .slice (Instr.buildSlice T.sl_api_Tag 1 #[(0, (.agg v_11))]) (fun (v_12 : Sl) (h : Heap) =>
  callK Tryz.prog (.int .i64) F.codec_Writer_Tag #[(.pointer v_3), (.slice v_12.a v_12.n v_12.c)] (fun (v_13 : Int) (h : Heap) =>
  callK Tryz.prog (Kd.pair .slice (.int .i64)) F.codec_Writer_Out #[(.pointer v_3)] (fun (v_14 : Sl × Int) (h : Heap) =>
  R (.slice v_14.1.a v_14.1.n v_14.1.c) h) h) h) h) h)) h)))) h)) h)))))
def journal_smith_frame.ann : Ann := (.seq .leaf (.seq .leaf (.seq .leaf (.seq .leaf (.seq .leaf (.seq .leaf (.seq .leaf .leaf)))))))
theorem journal_smith_frame.eq (s0 : Array Value) (place1 : Int) (b2 : Sl) (R : Value → Heap → Prop) (h : Heap) : journal_smith_frame.body s0 place1 b2 R h = evFn Tryz.prog Tryz.f49 journal_smith_frame.ann [(.agg s0), (.int .i64 place1), (.slice b2.a b2.n b2.c)] R h := by kernel_rfl
theorem journal_smith_frame.calls {s0 : Array Value} {place1 : Int} {b2 : Sl} {R : Value → Heap → Prop} {h : Heap} (H : journal_smith_frame.body s0 place1 b2 R h) : HC Tryz.prog F.journal_smith_frame #[(.agg s0), (.int .i64 place1), (.slice b2.a b2.n b2.c)] R h :=
  evFn_sound mixed Tryz.func49 (by kernel_rfl) (journal_smith_frame.eq s0 place1 b2 R h ▸ H)

/-! zugzwang/codec.Read -/
def codec_Read.body (b0 : Sl) (R : Value → Heap → Prop) (h : Heap) : Prop :=
  buildK Tryz.prog (Instr.build T.codec_state #[(0, (.bool true))]) (fun (v_1 : Array Value) =>
  callK Tryz.prog .slice F.slices_Clone_byte_byte #[(.slice b0.a b0.n b0.c)] (fun (v_2 : Sl) (h : Heap) =>
  buildK Tryz.prog (Instr.build T.codec_place #[(0, (.slice v_2.a v_2.n v_2.c)), (1, (.int .i64 0))]) (fun (v_3 : Array Value) =>
  buildK Tryz.prog (Instr.build T.codec_Reader #[(0, (.agg v_1)), (1, (.agg v_3))]) (fun (v_4 : Array Value) =>
  newK h v_4 T.codec_Reader (fun (v_5 : Option Addr) (h : Heap) =>
  R (.pointer v_5) h)))) h)
def codec_Read.ann : Ann := (.seq .leaf (.seq .leaf .leaf))
theorem codec_Read.eq (b0 : Sl) (R : Value → Heap → Prop) (h : Heap) : codec_Read.body b0 R h = evFn Tryz.prog Tryz.f60 codec_Read.ann [(.slice b0.a b0.n b0.c)] R h := by kernel_rfl
theorem codec_Read.calls {b0 : Sl} {R : Value → Heap → Prop} {h : Heap} (H : codec_Read.body b0 R h) : HC Tryz.prog F.codec_Read #[(.slice b0.a b0.n b0.c)] R h :=
  evFn_sound mixed Tryz.func60 (by kernel_rfl) (codec_Read.eq b0 R h ▸ H)

/-! (*zugzwang/codec.place).has -/
def codec_place_has.body (p0 : Option Addr) (n1 : Int) (R : Value → Heap → Prop) (h : Heap) : Prop :=
  derefK p0 (fun (a_1 : Addr) =>
  fldK ((some a_1)) 0 (fun (a_2 : Addr) =>
  loadK .slice h ((some a_2)) (fun (v_3 : Sl) =>
  derefK p0 (fun (a_4 : Addr) =>
  fldK ((some a_4)) 1 (fun (a_5 : Addr) =>
  loadK (.int .i64) h ((some a_5)) (fun (v_6 : Int) =>
  R (.bool (decide (n1 ≤ (IntKind.i64.wrap (((v_3.n : Int)) - v_6))))) h))))))
def codec_place_has.ann : Ann := (.seq .leaf (.seq .leaf .leaf))
theorem codec_place_has.eq (p0 : Option Addr) (n1 : Int) (R : Value → Heap → Prop) (h : Heap) : codec_place_has.body p0 n1 R h = evFn Tryz.prog Tryz.f98 codec_place_has.ann [(.pointer p0), (.int .i64 n1)] R h := by kernel_rfl
theorem codec_place_has.calls {p0 : Option Addr} {n1 : Int} {R : Value → Heap → Prop} {h : Heap} (H : codec_place_has.body p0 n1 R h) : HC Tryz.prog F.codec_place_has #[(.pointer p0), (.int .i64 n1)] R h :=
  evFn_sound mixed Tryz.func98 (by kernel_rfl) (codec_place_has.eq p0 n1 R h ▸ H)

/-! (*zugzwang/codec.place).take -/
def codec_place_take.body (p0 : Option Addr) (n1 : Int) (R : Value → Heap → Prop) (h : Heap) : Prop :=
  derefK p0 (fun (a_1 : Addr) =>
  fldK ((some a_1)) 1 (fun (a_2 : Addr) =>
  loadK (.int .i64) h ((some a_2)) (fun (v_3 : Int) =>
  derefK p0 (fun (a_4 : Addr) =>
  fldK ((some a_4)) 1 (fun (a_5 : Addr) =>
  storeK h ((some a_5)) (.int .i64 (IntKind.i64.wrap (v_3 + n1))) (fun (h : Heap) =>
  derefK p0 (fun (a_6 : Addr) =>
  fldK ((some a_6)) 0 (fun (a_7 : Addr) =>
  loadK .slice h ((some a_7)) (fun (v_8 : Sl) =>
  derefK p0 (fun (a_9 : Addr) =>
  fldK ((some a_9)) 1 (fun (a_10 : Addr) =>
  loadK (.int .i64) h ((some a_10)) (fun (v_11 : Int) =>
  derefK p0 (fun (a_12 : Addr) =>
  fldK ((some a_12)) 1 (fun (a_13 : Addr) =>
  loadK (.int .i64) h ((some a_13)) (fun (v_14 : Int) =>
  sliceK v_8 (some (IntKind.i64.wrap (v_11 - n1))) (some v_14) none (sizeOfT Tryz.prog T.uint8) (fun (v_15 : Sl) =>
  R (.slice v_15.a v_15.n v_15.c) h))))))))))))))))
def codec_place_take.ann : Ann := (.seq .leaf (.seq .leaf (.seq .leaf .leaf)))
theorem codec_place_take.eq (p0 : Option Addr) (n1 : Int) (R : Value → Heap → Prop) (h : Heap) : codec_place_take.body p0 n1 R h = evFn Tryz.prog Tryz.f100 codec_place_take.ann [(.pointer p0), (.int .i64 n1)] R h := by kernel_rfl
theorem codec_place_take.calls {p0 : Option Addr} {n1 : Int} {R : Value → Heap → Prop} {h : Heap} (H : codec_place_take.body p0 n1 R h) : HC Tryz.prog F.codec_place_take #[(.pointer p0), (.int .i64 n1)] R h :=
  evFn_sound mixed Tryz.func100 (by kernel_rfl) (codec_place_take.eq p0 n1 R h ▸ H)

/-! (*zugzwang/codec.Reader).next -/
def codec_Reader_next.body (r0 : Option Addr) (n1 : Int) (R : Value → Heap → Prop) (h : Heap) : Prop :=
  if r0.isNone = true then
  R (.slice none 0 0) h
  else
  derefK r0 (fun (a_1 : Addr) =>
  fldK ((some a_1)) 0 (fun (a_2 : Addr) =>
  fldK ((some a_2)) 0 (fun (a_3 : Addr) =>
  loadK .bool h ((some a_3)) (fun (v_4 : Bool) =>
  if (!v_4) = true then
  R (.slice none 0 0) h
  else
  joinW (fun (s_5 : Unit) (h : Heap) =>
  derefK r0 (fun (a_6 : Addr) =>
  fldK ((some a_6)) 0 (fun (a_7 : Addr) =>
  callK Tryz.prog .bool F.codec_state_sound #[(.pointer ((some a_7)))] (fun (v_8 : Bool) (h : Heap) =>
  if (!v_8) = true then
  R (.slice none 0 0) h
  else
  derefK r0 (fun (a_9 : Addr) =>
  fldK ((some a_9)) 2 (fun (a_10 : Addr) =>
  callK Tryz.prog .slice F.codec_place_take #[(.pointer ((some a_10))), (.int .i64 n1)] (fun (v_11 : Sl) (h : Heap) =>
  R (.slice v_11.a v_11.n v_11.c) h) h))) h)))
  (fun J_12 =>
  joinW (fun (s_13 : Bool) (h : Heap) =>
  if s_13 = true then
  derefK r0 (fun (a_14 : Addr) =>
  fldK ((some a_14)) 0 (fun (a_15 : Addr) =>
  callK Tryz.prog (.int .i64) F.codec_state_spoil #[(.pointer ((some a_15))), (.int .i64 4)] (fun (v_16 : Int) (h : Heap) =>
  J_12 () h) h))
  else
  J_12 () h)
  (fun J_17 =>
  derefK r0 (fun (a_18 : Addr) =>
  fldK ((some a_18)) 0 (fun (a_19 : Addr) =>
  callK Tryz.prog .bool F.codec_state_sound #[(.pointer ((some a_19)))] (fun (v_20 : Bool) (h : Heap) =>
  if v_20 = true then
  derefK r0 (fun (a_21 : Addr) =>
  fldK ((some a_21)) 2 (fun (a_22 : Addr) =>
  callK Tryz.prog .bool F.codec_place_has #[(.pointer ((some a_22))), (.int .i64 n1)] (fun (v_23 : Bool) (h : Heap) =>
  J_17 (!v_23) h) h))
  else
  J_17 false h) h))))))))
def codec_Reader_next.ann : Ann := (.seq .leaf (.seq (.seq .leaf (.cond (.seq .leaf .leaf) .leaf)) (.join [] (.join [(26, .bool)] .leaf (.cond .leaf .leaf)) (.seq (.seq .leaf (.cond (.seq .leaf .leaf) .leaf)) (.seq .leaf .leaf)))))
theorem codec_Reader_next.eq (r0 : Option Addr) (n1 : Int) (R : Value → Heap → Prop) (h : Heap) : codec_Reader_next.body r0 n1 R h = evFn Tryz.prog Tryz.f76 codec_Reader_next.ann [(.pointer r0), (.int .i64 n1)] R h := by kernel_rfl
theorem codec_Reader_next.calls {r0 : Option Addr} {n1 : Int} {R : Value → Heap → Prop} {h : Heap} (H : codec_Reader_next.body r0 n1 R h) : HC Tryz.prog F.codec_Reader_next #[(.pointer r0), (.int .i64 n1)] R h :=
  evFn_sound mixed Tryz.func76 (by kernel_rfl) (codec_Reader_next.eq r0 n1 R h ▸ H)

/-! (*zugzwang/codec.Reader).Number -/
def codec_Reader_Number.body (r0 : Option Addr) (R : Value → Heap → Prop) (h : Heap) : Prop :=
  callK Tryz.prog .slice F.codec_Reader_next #[(.pointer r0), (.int .i64 4)] (fun (v_1 : Sl) (h : Heap) =>
  loopW (fun X_3 (s_2 : Int × Int) (h : Heap) =>
  if (decide (s_2.2 < ((v_1.n : Int)))) = true then
  idxK v_1 s_2.2 (sizeOfT Tryz.prog T.uint8) (fun (a_4 : Addr) =>
  loadK (.int .u8) h ((some a_4)) (fun (v_5 : Int) =>
  shiftK 8
  (X_3 (IntKind.i64.wrap (BitVec.ofInt (IntKind.bits .i64) (IntKind.i64.wrap (s_2.1 * 2 ^ min (Int.toNat 8) (IntKind.bits .i64))) ||| BitVec.ofInt (IntKind.bits .i64) (IntKind.i64.wrap v_5)).toNat, IntKind.i64.wrap (s_2.2 + 1)) h)))
  else
  R (.int .i64 s_2.1) h) (0, 0) h) h
def codec_Reader_Number.ann : Ann := (.seq .leaf (.seq (.seq .leaf (.block (.loop [(2, (.int .i64)), (8, (.int .i64))] (.seq .leaf (.seq (.cond .leaf .leaf) (.seq (.block (.seq .leaf .leaf)) .leaf)))))) (.seq .leaf .leaf)))
theorem codec_Reader_Number.eq (r0 : Option Addr) (R : Value → Heap → Prop) (h : Heap) : codec_Reader_Number.body r0 R h = evFn Tryz.prog Tryz.f77 codec_Reader_Number.ann [(.pointer r0)] R h := by kernel_rfl
theorem codec_Reader_Number.calls {r0 : Option Addr} {R : Value → Heap → Prop} {h : Heap} (H : codec_Reader_Number.body r0 R h) : HC Tryz.prog F.codec_Reader_Number #[(.pointer r0)] R h :=
  evFn_sound mixed Tryz.func77 (by kernel_rfl) (codec_Reader_Number.eq r0 R h ▸ H)

/-! (*zugzwang/codec.Reader).Run -/
def codec_Reader_Run.body (r0 : Option Addr) (R : Value → Heap → Prop) (h : Heap) : Prop :=
  if r0.isNone = true then
  R (.slice none 0 0) h
  else
  derefK r0 (fun (a_1 : Addr) =>
  fldK ((some a_1)) 0 (fun (a_2 : Addr) =>
  fldK ((some a_2)) 0 (fun (a_3 : Addr) =>
  loadK .bool h ((some a_3)) (fun (v_4 : Bool) =>
  if (!v_4) = true then
  R (.slice none 0 0) h
  else
  derefK r0 (fun (a_5 : Addr) =>
  fldK ((some a_5)) 2 (fun (a_6 : Addr) =>
  fldK ((some a_6)) 1 (fun (a_7 : Addr) =>
  loadK (.int .i64) h ((some a_7)) (fun (v_8 : Int) =>
  callK Tryz.prog (.int .i64) F.codec_Reader_Number #[(.pointer r0)] (fun (v_9 : Int) (h : Heap) =>
  callK Tryz.prog .slice F.codec_Reader_next #[(.pointer r0), (.int .i64 v_9)] (fun (v_10 : Sl) (h : Heap) =>
  derefK r0 (fun (a_11 : Addr) =>
  fldK ((some a_11)) 0 (fun (a_12 : Addr) =>
  callK Tryz.prog .bool F.codec_state_sound #[(.pointer ((some a_12)))] (fun (v_13 : Bool) (h : Heap) =>
  if (!v_13) = true then
  derefK r0 (fun (a_14 : Addr) =>
  fldK ((some a_14)) 2 (fun (a_15 : Addr) =>
  fldK ((some a_15)) 1 (fun (a_16 : Addr) =>
  storeK h ((some a_16)) (.int .i64 v_8) (fun (h : Heap) =>
  R (.slice none 0 0) h))))
  else
  callK Tryz.prog .slice F.slices_Clone_byte_byte #[(.slice v_10.a v_10.n v_10.c)] (fun (v_17 : Sl) (h : Heap) =>
  R (.slice v_17.a v_17.n v_17.c) h) h) h))) h) h))))))))
def codec_Reader_Run.ann : Ann := (.seq .leaf (.seq (.seq .leaf (.cond (.seq .leaf .leaf) .leaf)) (.seq .leaf (.seq .leaf (.seq (.seq .leaf (.cond (.seq .leaf (.seq .leaf .leaf)) .leaf)) (.seq .leaf .leaf))))))
theorem codec_Reader_Run.eq (r0 : Option Addr) (R : Value → Heap → Prop) (h : Heap) : codec_Reader_Run.body r0 R h = evFn Tryz.prog Tryz.f61 codec_Reader_Run.ann [(.pointer r0)] R h := by kernel_rfl
theorem codec_Reader_Run.calls {r0 : Option Addr} {R : Value → Heap → Prop} {h : Heap} (H : codec_Reader_Run.body r0 R h) : HC Tryz.prog F.codec_Reader_Run #[(.pointer r0)] R h :=
  evFn_sound mixed Tryz.func61 (by kernel_rfl) (codec_Reader_Run.eq r0 R h ▸ H)

/-! (*zugzwang/codec.Reader).Left -/
def codec_Reader_Left.body (r0 : Option Addr) (R : Value → Heap → Prop) (h : Heap) : Prop :=
  if r0.isNone = true then
  R (.int .i64 0) h
  else
  derefK r0 (fun (a_1 : Addr) =>
  fldK ((some a_1)) 0 (fun (a_2 : Addr) =>
  fldK ((some a_2)) 0 (fun (a_3 : Addr) =>
  loadK .bool h ((some a_3)) (fun (v_4 : Bool) =>
  if (!v_4) = true then
  R (.int .i64 0) h
  else
  derefK r0 (fun (a_5 : Addr) =>
  fldK ((some a_5)) 2 (fun (a_6 : Addr) =>
  fldK ((some a_6)) 0 (fun (a_7 : Addr) =>
  loadK .slice h ((some a_7)) (fun (v_8 : Sl) =>
  derefK r0 (fun (a_9 : Addr) =>
  fldK ((some a_9)) 2 (fun (a_10 : Addr) =>
  fldK ((some a_10)) 1 (fun (a_11 : Addr) =>
  loadK (.int .i64) h ((some a_11)) (fun (v_12 : Int) =>
  R (.int .i64 (IntKind.i64.wrap (((v_8.n : Int)) - v_12))) h))))))))))))
def codec_Reader_Left.ann : Ann := (.seq .leaf (.seq (.seq .leaf (.cond (.seq .leaf .leaf) .leaf)) (.seq .leaf .leaf)))
theorem codec_Reader_Left.eq (r0 : Option Addr) (R : Value → Heap → Prop) (h : Heap) : codec_Reader_Left.body r0 R h = evFn Tryz.prog Tryz.f62 codec_Reader_Left.ann [(.pointer r0)] R h := by kernel_rfl
theorem codec_Reader_Left.calls {r0 : Option Addr} {R : Value → Heap → Prop} {h : Heap} (H : codec_Reader_Left.body r0 R h) : HC Tryz.prog F.codec_Reader_Left #[(.pointer r0)] R h :=
  evFn_sound mixed Tryz.func62 (by kernel_rfl) (codec_Reader_Left.eq r0 R h ▸ H)

/-! bytes.Equal -/
def bytes_Equal.body (a0 : Sl) (b1 : Sl) (R : Value → Heap → Prop) (h : Heap) : Prop :=
  opK Tryz.prog .str (convert T.sl_uint8 T.string (.slice a0.a a0.n a0.c)) (fun (v_1 : ByteArray) (h : Heap) =>
  opK Tryz.prog .str (convert T.sl_uint8 T.string (.slice b1.a b1.n b1.c)) (fun (v_2 : ByteArray) (h : Heap) =>
  R (.bool (v_1.toList == v_2.toList)) h) h) h
def bytes_Equal.ann : Ann := (.seq .leaf (.seq .leaf .leaf))
theorem bytes_Equal.eq (a0 : Sl) (b1 : Sl) (R : Value → Heap → Prop) (h : Heap) : bytes_Equal.body a0 b1 R h = evFn Tryz.prog Tryz.f101 bytes_Equal.ann [(.slice a0.a a0.n a0.c), (.slice b1.a b1.n b1.c)] R h := by kernel_rfl
theorem bytes_Equal.calls {a0 : Sl} {b1 : Sl} {R : Value → Heap → Prop} {h : Heap} (H : bytes_Equal.body a0 b1 R h) : HC Tryz.prog F.bytes_Equal #[(.slice a0.a a0.n a0.c), (.slice b1.a b1.n b1.c)] R h :=
  evFn_sound mixed Tryz.func101 (by kernel_rfl) (bytes_Equal.eq a0 b1 R h ▸ H)

/-! bytes.HasPrefix -/
def bytes_HasPrefix.body (s0 : Sl) (prefix1 : Sl) (R : Value → Heap → Prop) (h : Heap) : Prop :=
  if (decide (((s0.n : Int)) ≥ ((prefix1.n : Int)))) = true then
  sliceK s0 none (some ((prefix1.n : Int))) none (sizeOfT Tryz.prog T.uint8) (fun (v_1 : Sl) =>
  callK Tryz.prog .bool F.bytes_Equal #[(.slice v_1.a v_1.n v_1.c), (.slice prefix1.a prefix1.n prefix1.c)] (fun (v_2 : Bool) (h : Heap) =>
  R (.bool v_2) h) h)
  else
  R (.bool false) h
def bytes_HasPrefix.ann : Ann := (.seq .leaf (.seq .leaf .leaf))
theorem bytes_HasPrefix.eq (s0 : Sl) (prefix1 : Sl) (R : Value → Heap → Prop) (h : Heap) : bytes_HasPrefix.body s0 prefix1 R h = evFn Tryz.prog Tryz.f79 bytes_HasPrefix.ann [(.slice s0.a s0.n s0.c), (.slice prefix1.a prefix1.n prefix1.c)] R h := by kernel_rfl
theorem bytes_HasPrefix.calls {s0 : Sl} {prefix1 : Sl} {R : Value → Heap → Prop} {h : Heap} (H : bytes_HasPrefix.body s0 prefix1 R h) : HC Tryz.prog F.bytes_HasPrefix #[(.slice s0.a s0.n s0.c), (.slice prefix1.a prefix1.n prefix1.c)] R h :=
  evFn_sound mixed Tryz.func79 (by kernel_rfl) (bytes_HasPrefix.eq s0 prefix1 R h ▸ H)

/-! bytes.CutPrefix -/
def bytes_CutPrefix.body (s0 : Sl) (prefix1 : Sl) (R : Value → Heap → Prop) (h : Heap) : Prop :=
  callK Tryz.prog .bool F.bytes_HasPrefix #[(.slice s0.a s0.n s0.c), (.slice prefix1.a prefix1.n prefix1.c)] (fun (v_1 : Bool) (h : Heap) =>
  if (!v_1) = true then
  R (.tuple #[(.slice s0.a s0.n s0.c), (.bool false)]) h
  else
  sliceK s0 (some ((prefix1.n : Int))) none none (sizeOfT Tryz.prog T.uint8) (fun (v_2 : Sl) =>
  R (.tuple #[(.slice v_2.a v_2.n v_2.c), (.bool true)]) h)) h
def bytes_CutPrefix.ann : Ann := (.seq .leaf (.seq (.seq .leaf (.cond (.seq .leaf .leaf) .leaf)) (.seq .leaf .leaf)))
theorem bytes_CutPrefix.eq (s0 : Sl) (prefix1 : Sl) (R : Value → Heap → Prop) (h : Heap) : bytes_CutPrefix.body s0 prefix1 R h = evFn Tryz.prog Tryz.f63 bytes_CutPrefix.ann [(.slice s0.a s0.n s0.c), (.slice prefix1.a prefix1.n prefix1.c)] R h := by kernel_rfl
theorem bytes_CutPrefix.calls {s0 : Sl} {prefix1 : Sl} {R : Value → Heap → Prop} {h : Heap} (H : bytes_CutPrefix.body s0 prefix1 R h) : HC Tryz.prog F.bytes_CutPrefix #[(.slice s0.a s0.n s0.c), (.slice prefix1.a prefix1.n prefix1.c)] R h :=
  evFn_sound mixed Tryz.func63 (by kernel_rfl) (bytes_CutPrefix.eq s0 prefix1 R h ▸ H)

/-! (zugzwang/journal.smith).frames$1 -/
def journal_smith_frames_1.body (yield0 : Value) (x1 : Option Addr) (x2 : Option Addr) (R : Value → Heap → Prop) (h : Heap) : Prop :=
  loopW (fun X_2 (s_1 : Int) (h : Heap) =>
  loadK .slice h x1 (fun (v_3 : Sl) =>
  loadK .slice h x1 (fun (v_4 : Sl) =>
  sliceK v_3 none (some (if 4100 < ((v_4.n : Int)) then 4100 else ((v_4.n : Int)))) none (sizeOfT Tryz.prog T.uint8) (fun (v_5 : Sl) =>
  callK Tryz.prog .ptr F.codec_Read #[(.slice v_5.a v_5.n v_5.c)] (fun (v_6 : Option Addr) (h : Heap) =>
  callK Tryz.prog .slice F.codec_Reader_Run #[(.pointer v_6)] (fun (v_7 : Sl) (h : Heap) =>
  callK Tryz.prog (.int .i64) F.codec_Reader_Left #[(.pointer v_6)] (fun (v_8 : Int) (h : Heap) =>
  if (v_8 == ((v_5.n : Int))) = true then
  R (.tuple #[]) h
  else
  loadK .slice h x1 (fun (v_9 : Sl) =>
  loadAggK (sizeOfT Tryz.prog T.journal_smith) h x2 (fun (v_10 : Array Value) =>
  callK Tryz.prog .slice F.journal_smith_frame #[(.agg v_10), (.int .i64 s_1), (.slice v_7.a v_7.n v_7.c)] (fun (v_11 : Sl) (h : Heap) =>
  stillK .slice h x1 v_9 ∧
  callK Tryz.prog (Kd.pair .slice .bool) F.bytes_CutPrefix #[(.slice v_9.a v_9.n v_9.c), (.slice v_11.a v_11.n v_11.c)] (fun (v_12 : Sl × Bool) (h : Heap) =>
  if (!v_12.2) = true then
  R (.tuple #[]) h
  else
  callV Tryz.prog .bool yield0 #[(.slice v_12.1.a v_12.1.n v_12.1.c), (.slice v_7.a v_7.n v_7.c)] (fun (v_13 : Bool) (h : Heap) =>
  if (!v_13) = true then
  R (.tuple #[]) h
  else
  storeK h x1 (.slice v_12.1.a v_12.1.n v_12.1.c) (fun (h : Heap) =>
  X_2 (IntKind.i64.wrap (s_1 + 1)) h)) h) h) h))) h) h) h)))) 0 h
def journal_smith_frames_1.ann : Ann := (.seq .leaf (.block (.loop [(4, (.int .i64))] (.seq (.block (.seq .leaf (.seq .leaf (.seq .leaf (.seq (.seq .leaf (.cond .leaf .leaf)) (.seq (.any (.loc 2 (.loc 3 (.st 0 2016 (.st 1 2032 (.last 4 (.last 5 (.loc 6 (.loc 7 (.loc 8 (.loc 9 (.loc 10 .done)))))))))))) (.seq (.seq .leaf (.cond .leaf .leaf)) .leaf))))))) .leaf))))
theorem journal_smith_frames_1.eq (yield0 : Value) (x1 : Option Addr) (x2 : Option Addr) (R : Value → Heap → Prop) (h : Heap) : journal_smith_frames_1.body yield0 x1 x2 R h = evFn Tryz.prog Tryz.f59 journal_smith_frames_1.ann [yield0, (.pointer x1), (.pointer x2)] R h := by kernel_rfl
theorem journal_smith_frames_1.calls {yield0 : Value} {x1 : Option Addr} {x2 : Option Addr} {R : Value → Heap → Prop} {h : Heap} (H : journal_smith_frames_1.body yield0 x1 x2 R h) : HC Tryz.prog F.journal_smith_frames_1 #[yield0, (.pointer x1), (.pointer x2)] R h :=
  evFn_sound mixed Tryz.func59 (by kernel_rfl) (journal_smith_frames_1.eq yield0 x1 x2 R h ▸ H)

/-! (zugzwang/journal.smith).frames -/
def journal_smith_frames.body (s0 : Array Value) (b1 : Sl) (R : Value → Heap → Prop) (h : Heap) : Prop :=
  newK h s0 T.journal_smith (fun (s_1 : Option Addr) (h : Heap) =>
  newK h #[(.slice b1.a b1.n b1.c)] T.sl_uint8 (fun (b_2 : Option Addr) (h : Heap) =>
  R ((Value.func (.func F.journal_smith_frames_1) #[] #[(.pointer b_2), (.pointer s_1)])) h))
def journal_smith_frames.ann : Ann := (.seq .leaf (.seq .leaf .leaf))
theorem journal_smith_frames.eq (s0 : Array Value) (b1 : Sl) (R : Value → Heap → Prop) (h : Heap) : journal_smith_frames.body s0 b1 R h = evFn Tryz.prog Tryz.f37 journal_smith_frames.ann [(.agg s0), (.slice b1.a b1.n b1.c)] R h := by kernel_rfl
theorem journal_smith_frames.calls {s0 : Array Value} {b1 : Sl} {R : Value → Heap → Prop} {h : Heap} (H : journal_smith_frames.body s0 b1 R h) : HC Tryz.prog F.journal_smith_frames #[(.agg s0), (.slice b1.a b1.n b1.c)] R h :=
  evFn_sound mixed Tryz.func37 (by kernel_rfl) (journal_smith_frames.eq s0 b1 R h ▸ H)

/-! (*zugzwang/disk.Disk).Bytes -/
def disk_Disk_Bytes.body (d0 : Option Addr) (R : Value → Heap → Prop) (h : Heap) : Prop :=
  callK Tryz.prog .bool F.disk_Disk_there #[(.pointer d0)] (fun (v_1 : Bool) (h : Heap) =>
  if (!v_1) = true then
  R (.slice none 0 0) h
  else
  derefK d0 (fun (a_2 : Addr) =>
  fldK ((some a_2)) 0 (fun (a_3 : Addr) =>
  fldK ((some a_3)) 0 (fun (a_4 : Addr) =>
  loadK .slice h ((some a_4)) (fun (v_5 : Sl) =>
  callK Tryz.prog .slice F.slices_Clone_byte_byte #[(.slice v_5.a v_5.n v_5.c)] (fun (v_6 : Sl) (h : Heap) =>
  R (.slice v_6.a v_6.n v_6.c) h) h))))) h
def disk_Disk_Bytes.ann : Ann := (.seq .leaf (.seq (.seq .leaf (.cond (.seq .leaf .leaf) .leaf)) (.seq .leaf .leaf)))
theorem disk_Disk_Bytes.eq (d0 : Option Addr) (R : Value → Heap → Prop) (h : Heap) : disk_Disk_Bytes.body d0 R h = evFn Tryz.prog Tryz.f38 disk_Disk_Bytes.ann [(.pointer d0)] R h := by kernel_rfl
theorem disk_Disk_Bytes.calls {d0 : Option Addr} {R : Value → Heap → Prop} {h : Heap} (H : disk_Disk_Bytes.body d0 R h) : HC Tryz.prog F.disk_Disk_Bytes #[(.pointer d0)] R h :=
  evFn_sound mixed Tryz.func38 (by kernel_rfl) (disk_Disk_Bytes.eq d0 R h ▸ H)

/-! (*zugzwang/disk.Disk).Cut -/
def disk_Disk_Cut.body (d0 : Option Addr) (n1 : Int) (R : Value → Heap → Prop) (h : Heap) : Prop :=
  callK Tryz.prog .bool F.disk_Disk_there #[(.pointer d0)] (fun (v_1 : Bool) (h : Heap) =>
  if (!v_1) = true then
  R (.int .i64 1) h
  else
  if (decide (n1 < 0)) = true then
  R (.int .i64 6) h
  else
  derefK d0 (fun (a_2 : Addr) =>
  fldK ((some a_2)) 0 (fun (a_3 : Addr) =>
  fldK ((some a_3)) 0 (fun (a_4 : Addr) =>
  loadK .slice h ((some a_4)) (fun (v_5 : Sl) =>
  if (decide (n1 > ((v_5.n : Int)))) = true then
  R (.int .i64 6) h
  else
  derefK d0 (fun (a_6 : Addr) =>
  fldK ((some a_6)) 0 (fun (a_7 : Addr) =>
  callK Tryz.prog .unit F.disk_file_leave #[(.pointer ((some a_7))), (.int .i64 n1)] (fun (v_8 : Unit) (h : Heap) =>
  R (.int .i64 0) h) h))))))) h
def disk_Disk_Cut.ann : Ann := (.seq .leaf (.seq (.block (.seq .leaf (.cond (.seq .leaf .leaf) (.seq .leaf (.cond (.seq .leaf .leaf) .leaf))))) (.seq .leaf (.seq .leaf .leaf))))
theorem disk_Disk_Cut.eq (d0 : Option Addr) (n1 : Int) (R : Value → Heap → Prop) (h : Heap) : disk_Disk_Cut.body d0 n1 R h = evFn Tryz.prog Tryz.f39 disk_Disk_Cut.ann [(.pointer d0), (.int .i64 n1)] R h := by kernel_rfl
theorem disk_Disk_Cut.calls {d0 : Option Addr} {n1 : Int} {R : Value → Heap → Prop} {h : Heap} (H : disk_Disk_Cut.body d0 n1 R h) : HC Tryz.prog F.disk_Disk_Cut #[(.pointer d0), (.int .i64 n1)] R h :=
  evFn_sound mixed Tryz.func39 (by kernel_rfl) (disk_Disk_Cut.eq d0 n1 R h ▸ H)

/-! zugzwang/journal.Open -/
def journal_Open.body (m0 : Option Addr) (d1 : Option Addr) (R : Value → Heap → Prop) (h : Heap) : Prop :=
  callK Tryz.prog .ptr F.tags_Maker_Copy #[(.pointer m0)] (fun (v_1 : Option Addr) (h : Heap) =>
  if v_1.isNone = true then
  R (.tuple #[(.pointer none), (.int .i64 1)]) h
  else
  callK Tryz.prog (.int .i64) F.disk_Disk_Write #[(.pointer d1), (.slice none 0 0)] (fun (v_2 : Int) (h : Heap) =>
  if (v_2 != 0) = true then
  R (.tuple #[(.pointer none), (.int .i64 1)]) h
  else
  buildK Tryz.prog (Instr.build T.journal_smith #[(0, (.pointer m0))]) (fun (v_3 : Array Value) =>
  buildK Tryz.prog (Instr.build T.journal_Journal #[(0, (.agg v_3)), (1, (.pointer d1))]) (fun (v_4 : Array Value) =>
  newK h v_4 T.journal_Journal (fun (v_5 : Option Addr) (h : Heap) =>
  newK h (zerosOf Tryz.prog T.p_journal_Journal) T.p_journal_Journal (fun (j_6 : Option Addr) (h : Heap) =>
  storeK h j_6 (.pointer v_5) (fun (h : Heap) =>
  callK Tryz.prog (.int .i64) F.disk_Disk_Len #[(.pointer d1)] (fun (v_7 : Int) (h : Heap) =>
  newK h (zerosOf Tryz.prog T.int) T.int (fun (left_8 : Option Addr) (h : Heap) =>
  storeK h left_8 (.int .i64 v_7) (fun (h : Heap) =>
  loadK .ptr h j_6 (fun (v_9 : Option Addr) =>
  derefK v_9 (fun (a_10 : Addr) =>
  fldK ((some a_10)) 0 (fun (a_11 : Addr) =>
  loadAggK (sizeOfT Tryz.prog T.journal_smith) h ((some a_11)) (fun (v_12 : Array Value) =>
  callK Tryz.prog .slice F.disk_Disk_Bytes #[(.pointer d1)] (fun (v_13 : Sl) (h : Heap) =>
  stillAggK (sizeOfT Tryz.prog T.journal_smith) h ((some a_11)) v_12 ∧
  stillK .ptr h j_6 v_9 ∧
  callK Tryz.prog .any F.journal_smith_frames #[(.agg v_12), (.slice v_13.a v_13.n v_13.c)] (fun (v_14 : Value) (h : Heap) =>
  (fun (h0_18 : Heap) => rangeK Tryz.prog v_14 [(32, .slice), (33, .slice)] (fun (beg_16 : Heap → (Heap → Prop) → Prop) (x_15 : Sl × Sl) (KY_17 : Exit → Heap → Prop) (h : Heap) =>
  beg_16 h (fun (h : Heap) =>
  storeK h left_8 (.int .i64 ((x_15.1.n : Int))) (fun (h : Heap) =>
  loadK .ptr h j_6 (fun (v_19 : Option Addr) =>
  loadK .ptr h j_6 (fun (v_20 : Option Addr) =>
  derefK v_20 (fun (a_21 : Addr) =>
  fldK ((some a_21)) 2 (fun (a_22 : Addr) =>
  loadK .slice h ((some a_22)) (fun (v_23 : Sl) =>
  newSlK h 1 #[(.slice x_15.2.a x_15.2.n x_15.2.c)] T.sl_uint8 (fun (v_24 : Sl) (h : Heap) =>
  opK Tryz.prog .slice (Builtin.append_ #[T.sl_sl_uint8, T.sl_sl_uint8] T.sl_sl_uint8 #[(.slice v_23.a v_23.n v_23.c), (.slice v_24.a v_24.n v_24.c)]) (fun (v_25 : Sl) (h : Heap) =>
  stillK .ptr h j_6 v_19 ∧
  derefK v_19 (fun (a_26 : Addr) =>
  fldK ((some a_26)) 2 (fun (a_27 : Addr) =>
  storeK h ((some a_27)) (.slice v_25.a v_25.n v_25.c) (fun (h : Heap) =>
  KY_17 .normal h)))) h)))))))))
  (fun (h : Heap) =>
  loadK (.int .i64) h left_8 (fun (v_28 : Int) =>
  callK Tryz.prog (.int .i64) F.disk_Disk_Len #[(.pointer d1)] (fun (v_29 : Int) (h : Heap) =>
  stillK (.int .i64) h left_8 v_28 ∧
  callK Tryz.prog (.int .i64) F.disk_Disk_Cut #[(.pointer d1), (.int .i64 (IntKind.i64.wrap (v_29 - v_28)))] (fun (v_30 : Int) (h : Heap) =>
  loadK .ptr h j_6 (fun (v_31 : Option Addr) =>
  leaveK (some h0_18.size) h (fun (h : Heap) =>
  R (.tuple #[(.pointer v_31), (.int .i64 0)]) h))) h) h))
  (fun (h : Heap) =>
  leaveK (some h0_18.size) h (fun (h : Heap) =>
  R (.tuple #[(.pointer none), (.int .i64 0)]) h)) h0_18) h) h) h))))))) h)))))) h) h
def journal_Open.ann : AnnR := (.seq (.plain .leaf) (.seq (.plain (.seq .leaf (.cond (.seq .leaf .leaf) .leaf))) (.seq (.plain .leaf) (.seq (.plain .leaf) (.seq (.seq (.plain (.any (.loc 4 (.st 0 78 (.loc 1 (.loc 2 (.st 3 64 (.last 5 (.last 6 .done))))))))) (.block (.rf [(32, .slice), (33, .slice)] (.seq .leaf .leaf) (.block (.seq .leaf (.any (.loc 5 (.st 0 1792 (.st 1 1948 (.loc 2 (.loc 3 (.st 4 1920 (.last 6 (.last 7 (.loc 8 (.loc 9 (.last 10 .done))))))))))))))))) (.plain (.seq (.any (.loc 0 (.loc 1 (.st 3 48 (.last 2 (.loc 4 (.last 5 .done))))))) (.seq .leaf .leaf))))))))
theorem journal_Open.eq (m0 : Option Addr) (d1 : Option Addr) (R : Value → Heap → Prop) (h : Heap) : journal_Open.body m0 d1 R h = evFnR Tryz.prog Tryz.f9 journal_Open.ann [(.pointer m0), (.pointer d1)] R h := by kernel_rfl
theorem journal_Open.calls {m0 : Option Addr} {d1 : Option Addr} {R : Value → Heap → Prop} {h : Heap} (H : journal_Open.body m0 d1 R h) : HC Tryz.prog F.journal_Open #[(.pointer m0), (.pointer d1)] R h :=
  evFnR_sound mixed Tryz.func9 (by kernel_rfl) (journal_Open.eq m0 d1 R h ▸ H)

/-! (*zugzwang/journal.Journal).made -/
def journal_Journal_made.body (j0 : Option Addr) (R : Value → Heap → Prop) (h : Heap) : Prop :=
  if (!j0.isNone) = true then
  derefK j0 (fun (a_1 : Addr) =>
  fldK ((some a_1)) 1 (fun (a_2 : Addr) =>
  loadK .ptr h ((some a_2)) (fun (v_3 : Option Addr) =>
  R (.bool (!v_3.isNone)) h)))
  else
  R (.bool false) h
def journal_Journal_made.ann : Ann := (.seq .leaf (.seq .leaf .leaf))
theorem journal_Journal_made.eq (j0 : Option Addr) (R : Value → Heap → Prop) (h : Heap) : journal_Journal_made.body j0 R h = evFn Tryz.prog Tryz.f46 journal_Journal_made.ann [(.pointer j0)] R h := by kernel_rfl
theorem journal_Journal_made.calls {j0 : Option Addr} {R : Value → Heap → Prop} {h : Heap} (H : journal_Journal_made.body j0 R h) : HC Tryz.prog F.journal_Journal_made #[(.pointer j0)] R h :=
  evFn_sound mixed Tryz.func46 (by kernel_rfl) (journal_Journal_made.eq j0 R h ▸ H)

/-! slices.IndexFunc[[][]byte,[]byte] -/
def slices_IndexFunc_byte_byte.body (s0 : Sl) (f1 : Value) (R : Value → Heap → Prop) (h : Heap) : Prop :=
  loopW (fun X_2 (s_1 : Int) (h : Heap) =>
  if (decide (s_1 < ((s0.n : Int)))) = true then
  idxK s0 s_1 (sizeOfT Tryz.prog T.sl_uint8) (fun (a_3 : Addr) =>
  loadK .slice h ((some a_3)) (fun (v_4 : Sl) =>
  callV Tryz.prog .bool f1 #[(.slice v_4.a v_4.n v_4.c)] (fun (v_5 : Bool) (h : Heap) =>
  if v_5 = true then
  R (.int .i64 s_1) h
  else
  X_2 (IntKind.i64.wrap (s_1 + 1)) h) h))
  else
  R (.int .i64 ((-1))) h) 0 h
def slices_IndexFunc_byte_byte.ann : Ann := (.seq .leaf (.seq (.seq .leaf (.block (.loop [(8, (.int .i64))] (.seq .leaf (.seq (.cond .leaf .leaf) (.seq (.block (.seq .leaf (.seq .leaf (.cond (.seq .leaf .leaf) .leaf)))) .leaf)))))) (.seq .leaf .leaf)))
theorem slices_IndexFunc_byte_byte.eq (s0 : Sl) (f1 : Value) (R : Value → Heap → Prop) (h : Heap) : slices_IndexFunc_byte_byte.body s0 f1 R h = evFn Tryz.prog Tryz.f65 slices_IndexFunc_byte_byte.ann [(.slice s0.a s0.n s0.c), f1] R h := by kernel_rfl
theorem slices_IndexFunc_byte_byte.calls {s0 : Sl} {f1 : Value} {R : Value → Heap → Prop} {h : Heap} (H : slices_IndexFunc_byte_byte.body s0 f1 R h) : HC Tryz.prog F.slices_IndexFunc_byte_byte #[(.slice s0.a s0.n s0.c), f1] R h :=
  evFn_sound mixed Tryz.func65 (by kernel_rfl) (slices_IndexFunc_byte_byte.eq s0 f1 R h ▸ H)

/-! slices.ContainsFunc[[][]byte,[]byte] -/
def slices_ContainsFunc_byte_byte.body (s0 : Sl) (f1 : Value) (R : Value → Heap → Prop) (h : Heap) : Prop :=
  callK Tryz.prog (.int .i64) F.slices_IndexFunc_byte_byte #[(.slice s0.a s0.n s0.c), f1] (fun (v_1 : Int) (h : Heap) =>
  R (.bool (decide (v_1 ≥ 0))) h) h
def slices_ContainsFunc_byte_byte.ann : Ann := (.seq .leaf (.seq .leaf .leaf))
theorem slices_ContainsFunc_byte_byte.eq (s0 : Sl) (f1 : Value) (R : Value → Heap → Prop) (h : Heap) : slices_ContainsFunc_byte_byte.body s0 f1 R h = evFn Tryz.prog Tryz.f47 slices_ContainsFunc_byte_byte.ann [(.slice s0.a s0.n s0.c), f1] R h := by kernel_rfl
theorem slices_ContainsFunc_byte_byte.calls {s0 : Sl} {f1 : Value} {R : Value → Heap → Prop} {h : Heap} (H : slices_ContainsFunc_byte_byte.body s0 f1 R h) : HC Tryz.prog F.slices_ContainsFunc_byte_byte #[(.slice s0.a s0.n s0.c), f1] R h :=
  evFn_sound mixed Tryz.func47 (by kernel_rfl) (slices_ContainsFunc_byte_byte.eq s0 f1 R h ▸ H)

/-! (*zugzwang/journal.Journal).Put$1 -/
def journal_Journal_Put_1.body (b0 : Sl) (R : Value → Heap → Prop) (h : Heap) : Prop :=
  R (.bool (decide (((b0.n : Int)) > 4096))) h
def journal_Journal_Put_1.ann : Ann := (.seq .leaf (.seq .leaf .leaf))
theorem journal_Journal_Put_1.eq (b0 : Sl) (R : Value → Heap → Prop) (h : Heap) : journal_Journal_Put_1.body b0 R h = evFn Tryz.prog Tryz.f48 journal_Journal_Put_1.ann [(.slice b0.a b0.n b0.c)] R h := by kernel_rfl
theorem journal_Journal_Put_1.calls {b0 : Sl} {R : Value → Heap → Prop} {h : Heap} (H : journal_Journal_Put_1.body b0 R h) : HC Tryz.prog F.journal_Journal_Put_1 #[(.slice b0.a b0.n b0.c)] R h :=
  evFn_sound mixed Tryz.func48 (by kernel_rfl) (journal_Journal_Put_1.eq b0 R h ▸ H)

/-! (*zugzwang/journal.Journal).Put -/
def journal_Journal_Put.body (j0 : Option Addr) (l1 : Sl) (R : Value → Heap → Prop) (h : Heap) : Prop :=
  callK Tryz.prog .bool F.journal_Journal_made #[(.pointer j0)] (fun (v_1 : Bool) (h : Heap) =>
  if (!v_1) = true then
  R (.int .i64 1) h
  else
  callK Tryz.prog .bool F.slices_ContainsFunc_byte_byte #[(.slice l1.a l1.n l1.c), ((Value.func (.func F.journal_Journal_Put_1) #[] #[]))] (fun (v_2 : Bool) (h : Heap) =>
  if v_2 = true then
  R (.int .i64 2) h
  else
  loopW (fun X_4 (s_3 : Sl × Int) (h : Heap) =>
  if (decide (s_3.2 < ((l1.n : Int)))) = true then
  idxK l1 s_3.2 (sizeOfT Tryz.prog T.sl_uint8) (fun (a_5 : Addr) =>
  loadK .slice h ((some a_5)) (fun (v_6 : Sl) =>
  derefK j0 (fun (a_7 : Addr) =>
  fldK ((some a_7)) 0 (fun (a_8 : Addr) =>
  derefK j0 (fun (a_9 : Addr) =>
  fldK ((some a_9)) 2 (fun (a_10 : Addr) =>
  loadAggK (sizeOfT Tryz.prog T.journal_smith) h ((some a_8)) (fun (v_11 : Array Value) =>
  loadK .slice h ((some a_10)) (fun (v_12 : Sl) =>
  callK Tryz.prog .slice F.journal_smith_frame #[(.agg v_11), (.int .i64 (IntKind.i64.wrap (((v_12.n : Int)) + s_3.2))), (.slice v_6.a v_6.n v_6.c)] (fun (v_13 : Sl) (h : Heap) =>
  newSlK h 1 #[(.slice v_13.a v_13.n v_13.c)] T.sl_uint8 (fun (v_14 : Sl) (h : Heap) =>
  opK Tryz.prog .slice (Builtin.append_ #[T.sl_sl_uint8, T.sl_sl_uint8] T.sl_sl_uint8 #[(.slice s_3.1.a s_3.1.n s_3.1.c), (.slice v_14.a v_14.n v_14.c)]) (fun (v_15 : Sl) (h : Heap) =>
  X_4 (v_15, IntKind.i64.wrap (s_3.2 + 1)) h) h)) h))))))))
  else
  derefK j0 (fun (a_16 : Addr) =>
  fldK ((some a_16)) 1 (fun (a_17 : Addr) =>
  loadK .ptr h ((some a_17)) (fun (v_18 : Option Addr) =>
  callK Tryz.prog (.int .i64) F.disk_Disk_Write #[(.pointer v_18), (.slice s_3.1.a s_3.1.n s_3.1.c)] (fun (v_19 : Int) (h : Heap) =>
  if (v_19 != 0) = true then
  R (.int .i64 v_19) h
  else
  loopW (fun X_21 (s_20 : Int) (h : Heap) =>
  if (decide (s_20 < ((l1.n : Int)))) = true then
  idxK l1 s_20 (sizeOfT Tryz.prog T.sl_uint8) (fun (a_22 : Addr) =>
  loadK .slice h ((some a_22)) (fun (v_23 : Sl) =>
  derefK j0 (fun (a_24 : Addr) =>
  fldK ((some a_24)) 2 (fun (a_25 : Addr) =>
  loadK .slice h ((some a_25)) (fun (v_26 : Sl) =>
  callK Tryz.prog .slice F.slices_Clone_byte_byte #[(.slice v_23.a v_23.n v_23.c)] (fun (v_27 : Sl) (h : Heap) =>
  stillK .slice h ((some a_25)) v_26 ∧
  newSlK h 1 #[(.slice v_27.a v_27.n v_27.c)] T.sl_uint8 (fun (v_28 : Sl) (h : Heap) =>
  opK Tryz.prog .slice (Builtin.append_ #[T.sl_sl_uint8, T.sl_sl_uint8] T.sl_sl_uint8 #[(.slice v_26.a v_26.n v_26.c), (.slice v_28.a v_28.n v_28.c)]) (fun (v_29 : Sl) (h : Heap) =>
  derefK j0 (fun (a_30 : Addr) =>
  fldK ((some a_30)) 2 (fun (a_31 : Addr) =>
  storeK h ((some a_31)) (.slice v_29.a v_29.n v_29.c) (fun (h : Heap) =>
  X_21 (IntKind.i64.wrap (s_20 + 1)) h)))) h)) h)))))
  else
  R (.int .i64 0) h) 0 h) h)))) (⟨none, 0, 0⟩, 0) h) h) h
def journal_Journal_Put.ann : Ann := (.seq .leaf (.seq (.block (.seq .leaf (.cond (.seq .leaf .leaf) (.seq .leaf (.cond (.seq .leaf .leaf) .leaf))))) (.seq .leaf (.seq (.seq .leaf (.block (.loop [(5, .slice), (20, (.int .i64))] (.seq .leaf (.seq (.cond .leaf .leaf) (.seq (.block (.seq .leaf (.any (.loc 0 (.loc 1 (.loc 2 (.loc 3 (.loc 5 (.loc 6 (.loc 7 (.loc 10 (.loc 12 (.st 4 122880 (.st 8 125440 (.loc 9 (.loc 11 (.last 13 (.last 14 (.last 15 (.loc 16 .done)))))))))))))))))))) .leaf)))))) (.seq (.seq .leaf (.seq .leaf (.cond (.seq .leaf .leaf) .leaf))) (.seq (.seq .leaf (.block (.loop [(53, (.int .i64))] (.seq .leaf (.seq (.cond .leaf .leaf) (.seq (.block (.seq .leaf (.any (.loc 0 (.loc 1 (.loc 2 (.loc 3 (.loc 5 (.st 4 3840 (.last 6 (.last 7 (.last 8 (.loc 9 (.loc 10 (.last 11 .done))))))))))))))) .leaf)))))) (.seq .leaf .leaf)))))))
theorem journal_Journal_Put.eq (j0 : Option Addr) (l1 : Sl) (R : Value → Heap → Prop) (h : Heap) : journal_Journal_Put.body j0 l1 R h = evFn Tryz.prog Tryz.f14 journal_Journal_Put.ann [(.pointer j0), (.slice l1.a l1.n l1.c)] R h := by kernel_rfl
theorem journal_Journal_Put.calls {j0 : Option Addr} {l1 : Sl} {R : Value → Heap → Prop} {h : Heap} (H : journal_Journal_Put.body j0 l1 R h) : HC Tryz.prog F.journal_Journal_Put #[(.pointer j0), (.slice l1.a l1.n l1.c)] R h :=
  evFn_sound mixed Tryz.func14 (by kernel_rfl) (journal_Journal_Put.eq j0 l1 R h ▸ H)

/-! (*zugzwang/disk.Disk).Sync -/
def disk_Disk_Sync.body (d0 : Option Addr) (R : Value → Heap → Prop) (h : Heap) : Prop :=
  callK Tryz.prog .bool F.disk_Disk_there #[(.pointer d0)] (fun (v_1 : Bool) (h : Heap) =>
  if (!v_1) = true then
  R (.int .i64 1) h
  else
  derefK d0 (fun (a_2 : Addr) =>
  fldK ((some a_2)) 0 (fun (a_3 : Addr) =>
  fldK ((some a_3)) 0 (fun (a_4 : Addr) =>
  loadK .slice h ((some a_4)) (fun (v_5 : Sl) =>
  derefK d0 (fun (a_6 : Addr) =>
  fldK ((some a_6)) 0 (fun (a_7 : Addr) =>
  fldK ((some a_7)) 1 (fun (a_8 : Addr) =>
  storeK h ((some a_8)) (.int .i64 ((v_5.n : Int))) (fun (h : Heap) =>
  R (.int .i64 0) h))))))))) h
def disk_Disk_Sync.ann : Ann := (.seq .leaf (.seq (.seq .leaf (.cond (.seq .leaf .leaf) .leaf)) (.seq .leaf (.seq .leaf .leaf))))
theorem disk_Disk_Sync.eq (d0 : Option Addr) (R : Value → Heap → Prop) (h : Heap) : disk_Disk_Sync.body d0 R h = evFn Tryz.prog Tryz.f52 disk_Disk_Sync.ann [(.pointer d0)] R h := by kernel_rfl
theorem disk_Disk_Sync.calls {d0 : Option Addr} {R : Value → Heap → Prop} {h : Heap} (H : disk_Disk_Sync.body d0 R h) : HC Tryz.prog F.disk_Disk_Sync #[(.pointer d0)] R h :=
  evFn_sound mixed Tryz.func52 (by kernel_rfl) (disk_Disk_Sync.eq d0 R h ▸ H)

/-! (*zugzwang/journal.Journal).Sync -/
def journal_Journal_Sync.body (j0 : Option Addr) (R : Value → Heap → Prop) (h : Heap) : Prop :=
  callK Tryz.prog .bool F.journal_Journal_made #[(.pointer j0)] (fun (v_1 : Bool) (h : Heap) =>
  if (!v_1) = true then
  R (.int .i64 1) h
  else
  derefK j0 (fun (a_2 : Addr) =>
  fldK ((some a_2)) 1 (fun (a_3 : Addr) =>
  loadK .ptr h ((some a_3)) (fun (v_4 : Option Addr) =>
  callK Tryz.prog (.int .i64) F.disk_Disk_Sync #[(.pointer v_4)] (fun (v_5 : Int) (h : Heap) =>
  R (.int .i64 v_5) h) h)))) h
def journal_Journal_Sync.ann : Ann := (.seq .leaf (.seq (.seq .leaf (.cond (.seq .leaf .leaf) .leaf)) (.seq .leaf .leaf)))
theorem journal_Journal_Sync.eq (j0 : Option Addr) (R : Value → Heap → Prop) (h : Heap) : journal_Journal_Sync.body j0 R h = evFn Tryz.prog Tryz.f19 journal_Journal_Sync.ann [(.pointer j0)] R h := by kernel_rfl
theorem journal_Journal_Sync.calls {j0 : Option Addr} {R : Value → Heap → Prop} {h : Heap} (H : journal_Journal_Sync.body j0 R h) : HC Tryz.prog F.journal_Journal_Sync #[(.pointer j0)] R h :=
  evFn_sound mixed Tryz.func19 (by kernel_rfl) (journal_Journal_Sync.eq j0 R h ▸ H)

/-! (*zugzwang/disk.Disk).Fall -/
def disk_Disk_Fall.body (d0 : Option Addr) (keep1 : Int) (R : Value → Heap → Prop) (h : Heap) : Prop :=
  callK Tryz.prog .bool F.disk_Disk_there #[(.pointer d0)] (fun (v_1 : Bool) (h : Heap) =>
  if (!v_1) = true then
  R (.int .i64 1) h
  else
  derefK d0 (fun (a_2 : Addr) =>
  fldK ((some a_2)) 0 (fun (a_3 : Addr) =>
  derefK d0 (fun (a_4 : Addr) =>
  fldK ((some a_4)) 0 (fun (a_5 : Addr) =>
  fldK ((some a_5)) 1 (fun (a_6 : Addr) =>
  derefK d0 (fun (a_7 : Addr) =>
  fldK ((some a_7)) 0 (fun (a_8 : Addr) =>
  fldK ((some a_8)) 0 (fun (a_9 : Addr) =>
  derefK d0 (fun (a_10 : Addr) =>
  fldK ((some a_10)) 0 (fun (a_11 : Addr) =>
  fldK ((some a_11)) 1 (fun (a_12 : Addr) =>
  loadK (.int .i64) h ((some a_6)) (fun (v_13 : Int) =>
  loadK .slice h ((some a_9)) (fun (v_14 : Sl) =>
  loadK (.int .i64) h ((some a_12)) (fun (v_15 : Int) =>
  callK Tryz.prog .unit F.disk_file_leave #[(.pointer ((some a_3))), (.int .i64 (IntKind.i64.wrap (v_13 + (if (IntKind.i64.wrap (((v_14.n : Int)) - v_15)) < (if keep1 < 0 then 0 else keep1) then (IntKind.i64.wrap (((v_14.n : Int)) - v_15)) else (if keep1 < 0 then 0 else keep1)))))] (fun (v_16 : Unit) (h : Heap) =>
  R (.int .i64 0) h) h))))))))))))))) h
def disk_Disk_Fall.ann : Ann := (.seq .leaf (.seq (.seq .leaf (.cond (.seq .leaf .leaf) .leaf)) (.seq (.any (.loc 0 (.loc 1 (.loc 2 (.loc 3 (.loc 4 (.loc 5 (.loc 6 (.loc 8 (.loc 9 (.loc 10 (.loc 11 (.loc 12 (.loc 13 (.loc 16 (.loc 17 (.loc 18 (.loc 19 (.st 7 25165824 (.st 14 31490048 (.loc 15 (.st 20 31457280 (.loc 21 (.loc 22 (.loc 23 (.last 24 .done)))))))))))))))))))))))))) (.seq .leaf .leaf))))
theorem disk_Disk_Fall.eq (d0 : Option Addr) (keep1 : Int) (R : Value → Heap → Prop) (h : Heap) : disk_Disk_Fall.body d0 keep1 R h = evFn Tryz.prog Tryz.f21 disk_Disk_Fall.ann [(.pointer d0), (.int .i64 keep1)] R h := by kernel_rfl
theorem disk_Disk_Fall.calls {d0 : Option Addr} {keep1 : Int} {R : Value → Heap → Prop} {h : Heap} (H : disk_Disk_Fall.body d0 keep1 R h) : HC Tryz.prog F.disk_Disk_Fall #[(.pointer d0), (.int .i64 keep1)] R h :=
  evFn_sound mixed Tryz.func21 (by kernel_rfl) (disk_Disk_Fall.eq d0 keep1 R h ▸ H)

/-! zugzwang/zugzwangkit.SameBytes -/
def kit_SameBytes.body (a0 : Sl) (b1 : Sl) (R : Value → Heap → Prop) (h : Heap) : Prop :=
  if (((a0.n : Int)) != ((b1.n : Int))) = true then
  R (.bool false) h
  else
  loopW (fun X_2 (s_1 : Int) (h : Heap) =>
  if (decide (s_1 < ((a0.n : Int)))) = true then
  idxK a0 s_1 (sizeOfT Tryz.prog T.uint8) (fun (a_3 : Addr) =>
  loadK (.int .u8) h ((some a_3)) (fun (v_4 : Int) =>
  idxK b1 s_1 (sizeOfT Tryz.prog T.uint8) (fun (a_5 : Addr) =>
  loadK (.int .u8) h ((some a_5)) (fun (v_6 : Int) =>
  if (v_4 != v_6) = true then
  R (.bool false) h
  else
  X_2 (IntKind.i64.wrap (s_1 + 1)) h))))
  else
  R (.bool true) h) 0 h
def kit_SameBytes.ann : Ann := (.seq .leaf (.seq (.seq .leaf (.cond (.seq .leaf .leaf) .leaf)) (.seq (.seq .leaf (.block (.loop [(5, (.int .i64))] (.seq (.seq .leaf (.cond .leaf .leaf)) (.seq (.block (.seq .leaf (.cond (.seq .leaf .leaf) .leaf))) .leaf))))) (.seq .leaf .leaf))))
theorem kit_SameBytes.eq (a0 : Sl) (b1 : Sl) (R : Value → Heap → Prop) (h : Heap) : kit_SameBytes.body a0 b1 R h = evFn Tryz.prog Tryz.f43 kit_SameBytes.ann [(.slice a0.a a0.n a0.c), (.slice b1.a b1.n b1.c)] R h := by kernel_rfl
theorem kit_SameBytes.calls {a0 : Sl} {b1 : Sl} {R : Value → Heap → Prop} {h : Heap} (H : kit_SameBytes.body a0 b1 R h) : HC Tryz.prog F.kit_SameBytes #[(.slice a0.a a0.n a0.c), (.slice b1.a b1.n b1.c)] R h :=
  evFn_sound mixed Tryz.func43 (by kernel_rfl) (kit_SameBytes.eq a0 b1 R h ▸ H)

/-! zugzwang/zugzwangkit.SameByteRows -/
def kit_SameByteRows.body (a0 : Sl) (b1 : Sl) (R : Value → Heap → Prop) (h : Heap) : Prop :=
  if (((a0.n : Int)) != ((b1.n : Int))) = true then
  R (.bool false) h
  else
  loopW (fun X_2 (s_1 : Int) (h : Heap) =>
  if (decide (s_1 < ((a0.n : Int)))) = true then
  idxK a0 s_1 (sizeOfT Tryz.prog T.sl_uint8) (fun (a_3 : Addr) =>
  loadK .slice h ((some a_3)) (fun (v_4 : Sl) =>
  idxK b1 s_1 (sizeOfT Tryz.prog T.sl_uint8) (fun (a_5 : Addr) =>
  loadK .slice h ((some a_5)) (fun (v_6 : Sl) =>
  callQ Tryz.prog .bool F.kit_SameBytes #[(.slice v_4.a v_4.n v_4.c), (.slice v_6.a v_6.n v_6.c)] (fun (v_7 : Bool) =>
  if (!v_7) = true then
  R (.bool false) h
  else
  X_2 (IntKind.i64.wrap (s_1 + 1)) h) h))))
  else
  R (.bool true) h) 0 h
def kit_SameByteRows.ann : Ann := (.seq .leaf (.seq (.seq .leaf (.cond (.seq .leaf .leaf) .leaf)) (.seq (.seq .leaf (.block (.loop [(5, (.int .i64))] (.seq (.seq .leaf (.cond .leaf .leaf)) (.seq (.block (.seq .leaf (.cond (.seq .leaf .leaf) .leaf))) .leaf))))) (.seq .leaf .leaf))))
theorem kit_SameByteRows.eq (a0 : Sl) (b1 : Sl) (R : Value → Heap → Prop) (h : Heap) : kit_SameByteRows.body a0 b1 R h = evFn Tryz.prog Tryz.f29 kit_SameByteRows.ann [(.slice a0.a a0.n a0.c), (.slice b1.a b1.n b1.c)] R h := by kernel_rfl
theorem kit_SameByteRows.calls {a0 : Sl} {b1 : Sl} {R : Value → Heap → Prop} {h : Heap} (H : kit_SameByteRows.body a0 b1 R h) : HC Tryz.prog F.kit_SameByteRows #[(.slice a0.a a0.n a0.c), (.slice b1.a b1.n b1.c)] R h :=
  evFn_sound mixed Tryz.func29 (by kernel_rfl) (kit_SameByteRows.eq a0 b1 R h ▸ H)

/-! (*zugzwang/journal.Journal).Len -/
def journal_Journal_Len.body (j0 : Option Addr) (R : Value → Heap → Prop) (h : Heap) : Prop :=
  callK Tryz.prog .bool F.journal_Journal_made #[(.pointer j0)] (fun (v_1 : Bool) (h : Heap) =>
  if (!v_1) = true then
  R (.int .i64 0) h
  else
  derefK j0 (fun (a_2 : Addr) =>
  fldK ((some a_2)) 2 (fun (a_3 : Addr) =>
  loadK .slice h ((some a_3)) (fun (v_4 : Sl) =>
  R (.int .i64 ((v_4.n : Int))) h)))) h
def journal_Journal_Len.ann : Ann := (.seq .leaf (.seq (.seq .leaf (.cond (.seq .leaf .leaf) .leaf)) (.seq .leaf .leaf)))
theorem journal_Journal_Len.eq (j0 : Option Addr) (R : Value → Heap → Prop) (h : Heap) : journal_Journal_Len.body j0 R h = evFn Tryz.prog Tryz.f16 journal_Journal_Len.ann [(.pointer j0)] R h := by kernel_rfl
theorem journal_Journal_Len.calls {j0 : Option Addr} {R : Value → Heap → Prop} {h : Heap} (H : journal_Journal_Len.body j0 R h) : HC Tryz.prog F.journal_Journal_Len #[(.pointer j0)] R h :=
  evFn_sound mixed Tryz.func16 (by kernel_rfl) (journal_Journal_Len.eq j0 R h ▸ H)

/-! (*zugzwang/journal.Journal).Records -/
def journal_Journal_Records.body (j0 : Option Addr) (R : Value → Heap → Prop) (h : Heap) : Prop :=
  callK Tryz.prog (.int .i64) F.journal_Journal_Len #[(.pointer j0)] (fun (v_1 : Int) (h : Heap) =>
  loopW (fun X_3 (s_2 : Sl × Int) (h : Heap) =>
  if (decide (s_2.2 < v_1)) = true then
  derefK j0 (fun (a_4 : Addr) =>
  fldK ((some a_4)) 2 (fun (a_5 : Addr) =>
  loadK .slice h ((some a_5)) (fun (v_6 : Sl) =>
  idxK v_6 s_2.2 (sizeOfT Tryz.prog T.sl_uint8) (fun (a_7 : Addr) =>
  loadK .slice h ((some a_7)) (fun (v_8 : Sl) =>
  callK Tryz.prog .slice F.slices_Clone_byte_byte #[(.slice v_8.a v_8.n v_8.c)] (fun (v_9 : Sl) (h : Heap) =>
  newSlK h 1 #[(.slice v_9.a v_9.n v_9.c)] T.sl_uint8 (fun (v_10 : Sl) (h : Heap) =>
  opK Tryz.prog .slice (Builtin.append_ #[T.sl_sl_uint8, T.sl_sl_uint8] T.sl_sl_uint8 #[(.slice s_2.1.a s_2.1.n s_2.1.c), (.slice v_10.a v_10.n v_10.c)]) (fun (v_11 : Sl) (h : Heap) =>
  X_3 (v_11, IntKind.i64.wrap (s_2.2 + 1)) h) h)) h)))))
  else
  R (.slice s_2.1.a s_2.1.n s_2.1.c) h) (⟨none, 0, 0⟩, 0) h) h
def journal_Journal_Records.ann : Ann := (.seq .leaf (.seq (.seq .leaf (.block (.loop [(2, .slice), (6, (.int .i64))] (.seq .leaf (.seq (.cond .leaf .leaf) (.seq (.block (.seq .leaf .leaf)) .leaf)))))) (.seq .leaf .leaf)))
theorem journal_Journal_Records.eq (j0 : Option Addr) (R : Value → Heap → Prop) (h : Heap) : journal_Journal_Records.body j0 R h = evFn Tryz.prog Tryz.f30 journal_Journal_Records.ann [(.pointer j0)] R h := by kernel_rfl
theorem journal_Journal_Records.calls {j0 : Option Addr} {R : Value → Heap → Prop} {h : Heap} (H : journal_Journal_Records.body j0 R h) : HC Tryz.prog F.journal_Journal_Records #[(.pointer j0)] R h :=
  evFn_sound mixed Tryz.func30 (by kernel_rfl) (journal_Journal_Records.eq j0 R h ▸ H)

/-! zugzwang/zugzwanglaw26.awake -/
def law26_awake.body  (R : Value → Heap → Prop) (h : Heap) : Prop :=
  callK Tryz.prog .ptr F.tags_New #[(.bool false), (.slice none 0 0)] (fun (v_1 : Option Addr) (h : Heap) =>
  callK Tryz.prog (Kd.pair .ptr (.int .i64)) F.disk_New #[(.slice none 0 0)] (fun (v_2 : Option Addr × Int) (h : Heap) =>
  callK Tryz.prog (Kd.pair .ptr (.int .i64)) F.journal_Open #[(.pointer v_1), (.pointer v_2.1)] (fun (v_3 : Option Addr × Int) (h : Heap) =>
  if (v_2.2 != 0) = true then
  R (.bool false) h
  else
  if (v_3.2 != 0) = true then
  R (.bool false) h
  else
  newSlK h 1 #[(.int .u8 7)] T.uint8 (fun (v_4 : Sl) (h : Heap) =>
  newSlK h 2 #[(.int .u8 8), (.int .u8 9)] T.uint8 (fun (v_5 : Sl) (h : Heap) =>
  newSlK h 2 #[(.slice v_4.a v_4.n v_4.c), (.slice v_5.a v_5.n v_5.c)] T.sl_uint8 (fun (v_6 : Sl) (h : Heap) =>
  callK Tryz.prog (.int .i64) F.journal_Journal_Put #[(.pointer v_3.1), (.slice v_6.a v_6.n v_6.c)] (fun (v_7 : Int) (h : Heap) =>
  if (v_7 != 0) = true then
  R (.bool false) h
  else
  callK Tryz.prog (.int .i64) F.journal_Journal_Sync #[(.pointer v_3.1)] (fun (v_8 : Int) (h : Heap) =>
  if (v_8 != 0) = true then
  R (.bool false) h
  else
  newSlK h 1 #[(.int .u8 1)] T.uint8 (fun (v_9 : Sl) (h : Heap) =>
  newSlK h 1 #[(.slice v_9.a v_9.n v_9.c)] T.sl_uint8 (fun (v_10 : Sl) (h : Heap) =>
  callK Tryz.prog (.int .i64) F.journal_Journal_Put #[(.pointer v_3.1), (.slice v_10.a v_10.n v_10.c)] (fun (v_11 : Int) (h : Heap) =>
  if (v_11 != 0) = true then
  R (.bool false) h
  else
  callK Tryz.prog (.int .i64) F.disk_Disk_Len #[(.pointer v_2.1)] (fun (v_12 : Int) (h : Heap) =>
  if (v_12 != 112) = true then
  R (.bool false) h
  else
  callK Tryz.prog (.int .i64) F.disk_Disk_Fall #[(.pointer v_2.1), (.int .i64 36)] (fun (v_13 : Int) (h : Heap) =>
  callK Tryz.prog (Kd.pair .ptr (.int .i64)) F.journal_Open #[(.pointer v_1), (.pointer v_2.1)] (fun (v_14 : Option Addr × Int) (h : Heap) =>
  if (v_14.2 == 0) = true then
  callK Tryz.prog .slice F.journal_Journal_Records #[(.pointer v_14.1)] (fun (v_15 : Sl) (h : Heap) =>
  newSlK h 1 #[(.int .u8 7)] T.uint8 (fun (v_16 : Sl) (h : Heap) =>
  newSlK h 2 #[(.int .u8 8), (.int .u8 9)] T.uint8 (fun (v_17 : Sl) (h : Heap) =>
  newSlK h 2 #[(.slice v_16.a v_16.n v_16.c), (.slice v_17.a v_17.n v_17.c)] T.sl_uint8 (fun (v_18 : Sl) (h : Heap) =>
  callK Tryz.prog .bool F.kit_SameByteRows #[(.slice v_15.a v_15.n v_15.c), (.slice v_18.a v_18.n v_18.c)] (fun (v_19 : Bool) (h : Heap) =>
  if v_19 = true then
  callK Tryz.prog (.int .i64) F.disk_Disk_Len #[(.pointer v_2.1)] (fun (v_20 : Int) (h : Heap) =>
  R (.bool (v_20 == 75)) h) h
  else
  R (.bool false) h) h)))) h
  else
  R (.bool false) h) h) h) h) h))) h) h)))) h) h) h
def law26_awake.ann : Ann := (.seq .leaf (.seq .leaf (.seq .leaf (.seq .leaf (.seq (.seq .leaf (.cond (.seq .leaf .leaf) .leaf)) (.seq .leaf (.seq .leaf (.seq .leaf .leaf))))))))
theorem law26_awake.eq  (R : Value → Heap → Prop) (h : Heap) : law26_awake.body  R h = evFn Tryz.prog Tryz.f6 law26_awake.ann [] R h := by kernel_rfl
theorem law26_awake.calls  {R : Value → Heap → Prop} {h : Heap} (H : law26_awake.body  R h) : HC Tryz.prog F.law26_awake #[] R h :=
  evFn_sound mixed Tryz.func6 (by kernel_rfl) (law26_awake.eq  R h ▸ H)

/-! zugzwang/zugzwangref02.filled -/
def ref02_filled.body (b0 : Sl) (R : Value → Heap → Prop) (h : Heap) : Prop :=
  newSlK h 0 #[] T.uint8 (fun (v_1 : Sl) (h : Heap) =>
  opK Tryz.prog .slice (Builtin.append_ #[T.sl_uint8, T.sl_uint8] T.sl_uint8 #[(.slice v_1.a v_1.n v_1.c), (.slice b0.a b0.n b0.c)]) (fun (v_2 : Sl) (h : Heap) =>
  newSlK h 1 #[(.int .u8 128)] T.uint8 (fun (v_3 : Sl) (h : Heap) =>
  opK Tryz.prog .slice (Builtin.append_ #[T.sl_uint8, T.sl_uint8] T.sl_uint8 #[(.slice v_2.a v_2.n v_2.c), (.slice v_3.a v_3.n v_3.c)]) (fun (v_4 : Sl) (h : Heap) =>
  loopW (fun X_6 (s_5 : Sl) (h : Heap) =>
  divK 64
  (if ((Int.tmod ((s_5.n : Int)) 64) != 56) = true then
  newSlK h 1 #[(.int .u8 0)] T.uint8 (fun (v_7 : Sl) (h : Heap) =>
  opK Tryz.prog .slice (Builtin.append_ #[T.sl_uint8, T.sl_uint8] T.sl_uint8 #[(.slice s_5.a s_5.n s_5.c), (.slice v_7.a v_7.n v_7.c)]) (fun (v_8 : Sl) (h : Heap) =>
  X_6 v_8 h) h)
  else
  loopW (fun X_10 (s_9 : Sl × Int) (h : Heap) =>
  if (decide (s_9.2 ≥ 0)) = true then
  shiftK (IntKind.i64.wrap (8 * s_9.2))
  (newSlK h 1 #[(.int .u8 (IntKind.u8.wrap (Int.fdiv (IntKind.i64.wrap (8 * ((b0.n : Int)))) (2 ^ min (Int.toNat (IntKind.i64.wrap (8 * s_9.2))) (IntKind.bits .i64)))))] T.uint8 (fun (v_11 : Sl) (h : Heap) =>
  opK Tryz.prog .slice (Builtin.append_ #[T.sl_uint8, T.sl_uint8] T.sl_uint8 #[(.slice s_9.1.a s_9.1.n s_9.1.c), (.slice v_11.a v_11.n v_11.c)]) (fun (v_12 : Sl) (h : Heap) =>
  X_10 (v_12, IntKind.i64.wrap (s_9.2 - 1)) h) h))
  else
  R (.slice s_9.1.a s_9.1.n s_9.1.c) h) (s_5, 7) h)) v_4 h) h)) h)
def ref02_filled.ann : Ann := (.seq .leaf (.seq .leaf (.seq (.block (.loop [(3, .slice)] (.seq (.seq .leaf (.cond .leaf .leaf)) (.block .leaf)))) (.seq .leaf (.seq (.seq .leaf (.block (.loop [(3, .slice), (5, (.int .i64))] (.seq (.seq .leaf (.cond .leaf .leaf)) (.seq (.block .leaf) .leaf))))) (.seq .leaf .leaf))))))
theorem ref02_filled.eq (b0 : Sl) (R : Value → Heap → Prop) (h : Heap) : ref02_filled.body b0 R h = evFn Tryz.prog Tryz.f88 ref02_filled.ann [(.slice b0.a b0.n b0.c)] R h := by kernel_rfl
theorem ref02_filled.calls {b0 : Sl} {R : Value → Heap → Prop} {h : Heap} (H : ref02_filled.body b0 R h) : HC Tryz.prog F.ref02_filled #[(.slice b0.a b0.n b0.c)] R h :=
  evFn_sound mixed Tryz.func88 (by kernel_rfl) (ref02_filled.eq b0 R h ▸ H)

/-! zugzwang/zugzwangref02.constants -/
def ref02_constants.body  (R : Value → Heap → Prop) (h : Heap) : Prop :=
  newSlK h 64 #[(.int .u32 1116352408), (.int .u32 1899447441), (.int .u32 3049323471), (.int .u32 3921009573), (.int .u32 961987163), (.int .u32 1508970993), (.int .u32 2453635748), (.int .u32 2870763221), (.int .u32 3624381080), (.int .u32 310598401), (.int .u32 607225278), (.int .u32 1426881987), (.int .u32 1925078388), (.int .u32 2162078206), (.int .u32 2614888103), (.int .u32 3248222580), (.int .u32 3835390401), (.int .u32 4022224774), (.int .u32 264347078), (.int .u32 604807628), (.int .u32 770255983), (.int .u32 1249150122), (.int .u32 1555081692), (.int .u32 1996064986), (.int .u32 2554220882), (.int .u32 2821834349), (.int .u32 2952996808), (.int .u32 3210313671), (.int .u32 3336571891), (.int .u32 3584528711), (.int .u32 113926993), (.int .u32 338241895), (.int .u32 666307205), (.int .u32 773529912), (.int .u32 1294757372), (.int .u32 1396182291), (.int .u32 1695183700), (.int .u32 1986661051), (.int .u32 2177026350), (.int .u32 2456956037), (.int .u32 2730485921), (.int .u32 2820302411), (.int .u32 3259730800), (.int .u32 3345764771), (.int .u32 3516065817), (.int .u32 3600352804), (.int .u32 4094571909), (.int .u32 275423344), (.int .u32 430227734), (.int .u32 506948616), (.int .u32 659060556), (.int .u32 883997877), (.int .u32 958139571), (.int .u32 1322822218), (.int .u32 1537002063), (.int .u32 1747873779), (.int .u32 1955562222), (.int .u32 2024104815), (.int .u32 2227730452), (.int .u32 2361852424), (.int .u32 2428436474), (.int .u32 2756734187), (.int .u32 3204031479), (.int .u32 3329325298)] T.uint32 (fun (v_1 : Sl) (h : Heap) =>
  R (.slice v_1.a v_1.n v_1.c) h)
def ref02_constants.ann : Ann := (.seq .leaf (.seq .leaf .leaf))
theorem ref02_constants.eq  (R : Value → Heap → Prop) (h : Heap) : ref02_constants.body  R h = evFn Tryz.prog Tryz.f89 ref02_constants.ann [] R h := by kernel_rfl
theorem ref02_constants.calls  {R : Value → Heap → Prop} {h : Heap} (H : ref02_constants.body  R h) : HC Tryz.prog F.ref02_constants #[] R h :=
  evFn_sound mixed Tryz.func89 (by kernel_rfl) (ref02_constants.eq  R h ▸ H)

/-! zugzwang/zugzwangref02.begin -/
def ref02_begin.body  (R : Value → Heap → Prop) (h : Heap) : Prop :=
  newSlK h 8 #[(.int .u32 1779033703), (.int .u32 3144134277), (.int .u32 1013904242), (.int .u32 2773480762), (.int .u32 1359893119), (.int .u32 2600822924), (.int .u32 528734635), (.int .u32 1541459225)] T.uint32 (fun (v_1 : Sl) (h : Heap) =>
  R (.slice v_1.a v_1.n v_1.c) h)
def ref02_begin.ann : Ann := (.seq .leaf (.seq .leaf .leaf))
theorem ref02_begin.eq  (R : Value → Heap → Prop) (h : Heap) : ref02_begin.body  R h = evFn Tryz.prog Tryz.f90 ref02_begin.ann [] R h := by kernel_rfl
theorem ref02_begin.calls  {R : Value → Heap → Prop} {h : Heap} (H : ref02_begin.body  R h) : HC Tryz.prog F.ref02_begin #[] R h :=
  evFn_sound mixed Tryz.func90 (by kernel_rfl) (ref02_begin.eq  R h ▸ H)

/-! zugzwang/zugzwangref01.Sum -/
def ref01_Sum.body (words0 : Sl) (R : Value → Heap → Prop) (h : Heap) : Prop :=
  loopW (fun X_2 (s_1 : Int × Int) (h : Heap) =>
  if (decide (s_1.2 < ((words0.n : Int)))) = true then
  idxK words0 s_1.2 (sizeOfT Tryz.prog T.uint32) (fun (a_3 : Addr) =>
  loadK (.int .u32) h ((some a_3)) (fun (v_4 : Int) =>
  divK 4294967296
  (X_2 (Int.tmod (IntKind.u64.wrap (s_1.1 + (IntKind.u64.wrap v_4))) 4294967296, IntKind.i64.wrap (s_1.2 + 1)) h)))
  else
  R (.int .u32 (IntKind.u32.wrap s_1.1)) h) (0, 0) h
def ref01_Sum.ann : Ann := (.seq .leaf (.seq .leaf (.seq (.seq .leaf (.block (.loop [(3, (.int .u64)), (4, (.int .i64))] (.seq (.seq .leaf (.cond .leaf .leaf)) (.seq (.block .leaf) .leaf))))) (.seq .leaf .leaf))))
theorem ref01_Sum.eq (words0 : Sl) (R : Value → Heap → Prop) (h : Heap) : ref01_Sum.body words0 R h = evFn Tryz.prog Tryz.f92 ref01_Sum.ann [(.slice words0.a words0.n words0.c)] R h := by kernel_rfl
theorem ref01_Sum.calls {words0 : Sl} {R : Value → Heap → Prop} {h : Heap} (H : ref01_Sum.body words0 R h) : HC Tryz.prog F.ref01_Sum #[(.slice words0.a words0.n words0.c)] R h :=
  evFn_sound mixed Tryz.func92 (by kernel_rfl) (ref01_Sum.eq words0 R h ▸ H)

/-! zugzwang/zugzwangref01.Words -/
def ref01_Words.body (b0 : Sl) (R : Value → Heap → Prop) (h : Heap) : Prop :=
  divK 4
  (if ((Int.tmod ((b0.n : Int)) 4) != 0) = true then
  R (.tuple #[(.slice none 0 0), (.int .i64 4)]) h
  else
  loopW (fun X_2 (s_1 : Sl × Int) (h : Heap) =>
  if (decide (s_1.2 < ((b0.n : Int)))) = true then
  idxK b0 s_1.2 (sizeOfT Tryz.prog T.uint8) (fun (a_3 : Addr) =>
  idxK b0 (IntKind.i64.wrap (s_1.2 + 1)) (sizeOfT Tryz.prog T.uint8) (fun (a_4 : Addr) =>
  idxK b0 (IntKind.i64.wrap (s_1.2 + 2)) (sizeOfT Tryz.prog T.uint8) (fun (a_5 : Addr) =>
  idxK b0 (IntKind.i64.wrap (s_1.2 + 3)) (sizeOfT Tryz.prog T.uint8) (fun (a_6 : Addr) =>
  loadK (.int .u8) h ((some a_3)) (fun (v_7 : Int) =>
  loadK (.int .u8) h ((some a_4)) (fun (v_8 : Int) =>
  loadK (.int .u8) h ((some a_5)) (fun (v_9 : Int) =>
  loadK (.int .u8) h ((some a_6)) (fun (v_10 : Int) =>
  newSlK h 1 #[(.int .u32 (IntKind.u32.wrap ((IntKind.u32.wrap ((IntKind.u32.wrap ((IntKind.u32.wrap ((IntKind.u32.wrap v_7) * 16777216)) + (IntKind.u32.wrap ((IntKind.u32.wrap v_8) * 65536)))) + (IntKind.u32.wrap ((IntKind.u32.wrap v_9) * 256)))) + (IntKind.u32.wrap v_10))))] T.uint32 (fun (v_11 : Sl) (h : Heap) =>
  opK Tryz.prog .slice (Builtin.append_ #[T.sl_uint32, T.sl_uint32] T.sl_uint32 #[(.slice s_1.1.a s_1.1.n s_1.1.c), (.slice v_11.a v_11.n v_11.c)]) (fun (v_12 : Sl) (h : Heap) =>
  X_2 (v_12, IntKind.i64.wrap (s_1.2 + 4)) h) h)))))))))
  else
  R (.tuple #[(.slice s_1.1.a s_1.1.n s_1.1.c), (.int .i64 0)]) h) (⟨none, 0, 0⟩, 0) h)
def ref01_Words.ann : Ann := (.seq .leaf (.seq (.seq .leaf (.cond (.seq .leaf .leaf) .leaf)) (.seq .leaf (.seq (.seq .leaf (.block (.loop [(4, .slice), (5, (.int .i64))] (.seq (.seq .leaf (.cond .leaf .leaf)) (.seq (.block (.any (.loc 0 (.loc 1 (.loc 2 (.loc 3 (.loc 7 (.loc 8 (.loc 9 (.loc 10 (.loc 15 (.loc 16 (.loc 17 (.loc 18 (.loc 23 (.loc 24 (.loc 25 (.loc 26 (.st 4 8057274464 (.loc 5 (.loc 6 (.st 11 8057286656 (.loc 12 (.loc 13 (.loc 14 (.st 19 8060403712 (.loc 20 (.loc 21 (.loc 22 (.st 27 8321499136 (.loc 28 (.loc 29 (.last 30 (.last 31 (.loc 32 .done))))))))))))))))))))))))))))))))))) .leaf))))) (.seq .leaf .leaf)))))
theorem ref01_Words.eq (b0 : Sl) (R : Value → Heap → Prop) (h : Heap) : ref01_Words.body b0 R h = evFn Tryz.prog Tryz.f107 ref01_Words.ann [(.slice b0.a b0.n b0.c)] R h := by kernel_rfl
theorem ref01_Words.calls {b0 : Sl} {R : Value → Heap → Prop} {h : Heap} (H : ref01_Words.body b0 R h) : HC Tryz.prog F.ref01_Words #[(.slice b0.a b0.n b0.c)] R h :=
  evFn_sound mixed Tryz.func107 (by kernel_rfl) (ref01_Words.eq b0 R h ▸ H)

/-! zugzwang/zugzwangref01.bit -/
def ref01_bit.body (x0 : Int) (k1 : Int) (R : Value → Heap → Prop) (h : Heap) : Prop :=
  shiftK k1
  (divK 2
  (R (.bool ((Int.tmod (Int.fdiv x0 (2 ^ min (Int.toNat k1) (IntKind.bits .u32))) 2) == 1)) h))
def ref01_bit.ann : Ann := (.seq .leaf (.seq .leaf .leaf))
theorem ref01_bit.eq (x0 : Int) (k1 : Int) (R : Value → Heap → Prop) (h : Heap) : ref01_bit.body x0 k1 R h = evFn Tryz.prog Tryz.f109 ref01_bit.ann [(.int .u32 x0), (.int .i64 k1)] R h := by kernel_rfl
theorem ref01_bit.calls {x0 : Int} {k1 : Int} {R : Value → Heap → Prop} {h : Heap} (H : ref01_bit.body x0 k1 R h) : HC Tryz.prog F.ref01_bit #[(.int .u32 x0), (.int .i64 k1)] R h :=
  evFn_sound mixed Tryz.func109 (by kernel_rfl) (ref01_bit.eq x0 k1 R h ▸ H)

/-! zugzwang/zugzwangref01.low -/
def ref01_low.body (n0 : Int) (R : Value → Heap → Prop) (h : Heap) : Prop :=
  divK 32
  (if (decide ((Int.tmod n0 32) < 0)) = true then
  R (.int .i64 (IntKind.i64.wrap ((Int.tmod n0 32) + 32))) h
  else
  R (.int .i64 (Int.tmod n0 32)) h)
def ref01_low.ann : Ann := (.seq .leaf (.seq .leaf (.seq (.seq .leaf (.cond .leaf .leaf)) (.seq .leaf .leaf))))
theorem ref01_low.eq (n0 : Int) (R : Value → Heap → Prop) (h : Heap) : ref01_low.body n0 R h = evFn Tryz.prog Tryz.f110 ref01_low.ann [(.int .i64 n0)] R h := by kernel_rfl
theorem ref01_low.calls {n0 : Int} {R : Value → Heap → Prop} {h : Heap} (H : ref01_low.body n0 R h) : HC Tryz.prog F.ref01_low #[(.int .i64 n0)] R h :=
  evFn_sound mixed Tryz.func110 (by kernel_rfl) (ref01_low.eq n0 R h ▸ H)

/-! zugzwang/zugzwangref01.place -/
def ref01_place.body (k0 : Int) (one1 : Bool) (R : Value → Heap → Prop) (h : Heap) : Prop :=
  if one1 = true then
  shiftK k0
  (R (.int .u32 (IntKind.u32.wrap (1 * 2 ^ min (Int.toNat k0) (IntKind.bits .u32)))) h)
  else
  R (.int .u32 0) h
def ref01_place.ann : Ann := (.seq .leaf (.seq (.seq .leaf (.cond (.seq .leaf .leaf) .leaf)) (.seq .leaf .leaf)))
theorem ref01_place.eq (k0 : Int) (one1 : Bool) (R : Value → Heap → Prop) (h : Heap) : ref01_place.body k0 one1 R h = evFn Tryz.prog Tryz.f111 ref01_place.ann [(.int .i64 k0), (.bool one1)] R h := by kernel_rfl
theorem ref01_place.calls {k0 : Int} {one1 : Bool} {R : Value → Heap → Prop} {h : Heap} (H : ref01_place.body k0 one1 R h) : HC Tryz.prog F.ref01_place #[(.int .i64 k0), (.bool one1)] R h :=
  evFn_sound mixed Tryz.func111 (by kernel_rfl) (ref01_place.eq k0 one1 R h ▸ H)

/-! zugzwang/zugzwangref01.Mix -/
def ref01_Mix.body (x0 : Int) (turns1 : Sl) (R : Value → Heap → Prop) (h : Heap) : Prop :=
  loopW (fun X_2 (s_1 : Int × Int) (h : Heap) =>
  if (decide (s_1.2 < 32)) = true then
  loopW (fun X_4 (s_3 : Bool × Int) (h : Heap) =>
  if (decide (s_3.2 < ((turns1.n : Int)))) = true then
  idxK turns1 s_3.2 (sizeOfT Tryz.prog T.int) (fun (a_5 : Addr) =>
  loadK (.int .i64) h ((some a_5)) (fun (v_6 : Int) =>
  callK Tryz.prog (.int .i64) F.ref01_low #[(.int .i64 v_6)] (fun (v_7 : Int) (h : Heap) =>
  divK 32
  (callK Tryz.prog .bool F.ref01_bit #[(.int .u32 x0), (.int .i64 (Int.tmod (IntKind.i64.wrap (s_1.2 + v_7)) 32))] (fun (v_8 : Bool) (h : Heap) =>
  if v_8 = true then
  X_4 (!s_3.1, IntKind.i64.wrap (s_3.2 + 1)) h
  else
  X_4 (s_3.1, IntKind.i64.wrap (s_3.2 + 1)) h) h)) h))
  else
  callK Tryz.prog (.int .u32) F.ref01_place #[(.int .i64 s_1.2), (.bool s_3.1)] (fun (v_9 : Int) (h : Heap) =>
  X_2 (IntKind.u32.wrap (s_1.1 + v_9), IntKind.i64.wrap (s_1.2 + 1)) h) h) (false, 0) h
  else
  R (.int .u32 s_1.1) h) (0, 0) h
def ref01_Mix.ann : Ann := (.seq .leaf (.seq .leaf (.seq (.seq .leaf (.block (.loop [(5, (.int .u32)), (6, (.int .i64))] (.seq (.seq .leaf (.cond .leaf .leaf)) (.seq (.block (.seq .leaf (.seq (.seq .leaf (.block (.loop [(7, .bool), (8, (.int .i64))] (.seq (.seq .leaf (.cond .leaf .leaf)) (.seq (.block (.seq .leaf (.cond .leaf .leaf))) .leaf))))) .leaf))) .leaf))))) (.seq .leaf .leaf))))
theorem ref01_Mix.eq (x0 : Int) (turns1 : Sl) (R : Value → Heap → Prop) (h : Heap) : ref01_Mix.body x0 turns1 R h = evFn Tryz.prog Tryz.f93 ref01_Mix.ann [(.int .u32 x0), (.slice turns1.a turns1.n turns1.c)] R h := by kernel_rfl
theorem ref01_Mix.calls {x0 : Int} {turns1 : Sl} {R : Value → Heap → Prop} {h : Heap} (H : ref01_Mix.body x0 turns1 R h) : HC Tryz.prog F.ref01_Mix #[(.int .u32 x0), (.slice turns1.a turns1.n turns1.c)] R h :=
  evFn_sound mixed Tryz.func93 (by kernel_rfl) (ref01_Mix.eq x0 turns1 R h ▸ H)

/-! zugzwang/zugzwangref01.Shift -/
def ref01_Shift.body (x0 : Int) (n1 : Int) (R : Value → Heap → Prop) (h : Heap) : Prop :=
  if (decide (n1 < 0)) = true then
  R (.int .u32 x0) h
  else
  loopW (fun X_2 (s_1 : Int × Int) (h : Heap) =>
  if (decide (s_1.2 < 32)) = true then
  if (decide (n1 < (IntKind.i64.wrap (32 - s_1.2)))) = true then
  callK Tryz.prog .bool F.ref01_bit #[(.int .u32 x0), (.int .i64 (IntKind.i64.wrap (s_1.2 + n1)))] (fun (v_3 : Bool) (h : Heap) =>
  callK Tryz.prog (.int .u32) F.ref01_place #[(.int .i64 s_1.2), (.bool v_3)] (fun (v_4 : Int) (h : Heap) =>
  X_2 (IntKind.u32.wrap (s_1.1 + v_4), IntKind.i64.wrap (s_1.2 + 1)) h) h) h
  else
  callK Tryz.prog (.int .u32) F.ref01_place #[(.int .i64 s_1.2), (.bool false)] (fun (v_5 : Int) (h : Heap) =>
  X_2 (IntKind.u32.wrap (s_1.1 + v_5), IntKind.i64.wrap (s_1.2 + 1)) h) h
  else
  R (.int .u32 s_1.1) h) (0, 0) h
def ref01_Shift.ann : Ann := (.seq .leaf (.seq (.seq .leaf (.cond (.seq .leaf .leaf) .leaf)) (.seq .leaf (.seq (.seq .leaf (.block (.loop [(5, (.int .u32)), (6, (.int .i64))] (.seq (.seq .leaf (.cond .leaf .leaf)) (.seq (.block .leaf) .leaf))))) (.seq .leaf .leaf)))))
theorem ref01_Shift.eq (x0 : Int) (n1 : Int) (R : Value → Heap → Prop) (h : Heap) : ref01_Shift.body x0 n1 R h = evFn Tryz.prog Tryz.f118 ref01_Shift.ann [(.int .u32 x0), (.int .i64 n1)] R h := by kernel_rfl
theorem ref01_Shift.calls {x0 : Int} {n1 : Int} {R : Value → Heap → Prop} {h : Heap} (H : ref01_Shift.body x0 n1 R h) : HC Tryz.prog F.ref01_Shift #[(.int .u32 x0), (.int .i64 n1)] R h :=
  evFn_sound mixed Tryz.func118 (by kernel_rfl) (ref01_Shift.eq x0 n1 R h ▸ H)

/-! zugzwang/zugzwangref02.small -/
def ref02_small.body (x0 : Int) (i1 : Int) (j2 : Int) (k3 : Int) (R : Value → Heap → Prop) (h : Heap) : Prop :=
  newSlK h 2 #[(.int .i64 i1), (.int .i64 j2)] T.int (fun (v_1 : Sl) (h : Heap) =>
  callK Tryz.prog (.int .u32) F.ref01_Mix #[(.int .u32 x0), (.slice v_1.a v_1.n v_1.c)] (fun (v_2 : Int) (h : Heap) =>
  callK Tryz.prog (.int .u32) F.ref01_Shift #[(.int .u32 x0), (.int .i64 k3)] (fun (v_3 : Int) (h : Heap) =>
  R (.int .u32 (IntKind.u32.wrap (BitVec.ofInt (IntKind.bits .u32) v_2 ^^^ BitVec.ofInt (IntKind.bits .u32) v_3).toNat)) h) h) h)
def ref02_small.ann : Ann := (.seq .leaf (.seq .leaf .leaf))
theorem ref02_small.eq (x0 : Int) (i1 : Int) (j2 : Int) (k3 : Int) (R : Value → Heap → Prop) (h : Heap) : ref02_small.body x0 i1 j2 k3 R h = evFn Tryz.prog Tryz.f108 ref02_small.ann [(.int .u32 x0), (.int .i64 i1), (.int .i64 j2), (.int .i64 k3)] R h := by kernel_rfl
theorem ref02_small.calls {x0 : Int} {i1 : Int} {j2 : Int} {k3 : Int} {R : Value → Heap → Prop} {h : Heap} (H : ref02_small.body x0 i1 j2 k3 R h) : HC Tryz.prog F.ref02_small #[(.int .u32 x0), (.int .i64 i1), (.int .i64 j2), (.int .i64 k3)] R h :=
  evFn_sound mixed Tryz.func108 (by kernel_rfl) (ref02_small.eq x0 i1 j2 k3 R h ▸ H)

/-! zugzwang/zugzwangref02.schedule -/
def ref02_schedule.body (block0 : Sl) (R : Value → Heap → Prop) (h : Heap) : Prop :=
  callK Tryz.prog (Kd.pair .slice (.int .i64)) F.ref01_Words #[(.slice block0.a block0.n block0.c)] (fun (v_1 : Sl × Int) (h : Heap) =>
  loopW (fun X_3 (s_2 : Sl × Int) (h : Heap) =>
  if (decide (s_2.2 < 64)) = true then
  idxK s_2.1 (IntKind.i64.wrap (s_2.2 - 16)) (sizeOfT Tryz.prog T.uint32) (fun (a_4 : Addr) =>
  idxK s_2.1 (IntKind.i64.wrap (s_2.2 - 15)) (sizeOfT Tryz.prog T.uint32) (fun (a_5 : Addr) =>
  idxK s_2.1 (IntKind.i64.wrap (s_2.2 - 7)) (sizeOfT Tryz.prog T.uint32) (fun (a_6 : Addr) =>
  idxK s_2.1 (IntKind.i64.wrap (s_2.2 - 2)) (sizeOfT Tryz.prog T.uint32) (fun (a_7 : Addr) =>
  loadK (.int .u32) h ((some a_4)) (fun (v_8 : Int) =>
  loadK (.int .u32) h ((some a_5)) (fun (v_9 : Int) =>
  loadK (.int .u32) h ((some a_6)) (fun (v_10 : Int) =>
  loadK (.int .u32) h ((some a_7)) (fun (v_11 : Int) =>
  callK Tryz.prog (.int .u32) F.ref02_small #[(.int .u32 v_9), (.int .i64 7), (.int .i64 18), (.int .i64 3)] (fun (v_12 : Int) (h : Heap) =>
  stillK (.int .u32) h ((some a_7)) v_11 ∧
  stillK (.int .u32) h ((some a_6)) v_10 ∧
  stillK (.int .u32) h ((some a_4)) v_8 ∧
  callK Tryz.prog (.int .u32) F.ref02_small #[(.int .u32 v_11), (.int .i64 17), (.int .i64 19), (.int .i64 10)] (fun (v_13 : Int) (h : Heap) =>
  stillK (.int .u32) h ((some a_6)) v_10 ∧
  stillK (.int .u32) h ((some a_4)) v_8 ∧
  newSlK h 4 #[(.int .u32 v_8), (.int .u32 v_12), (.int .u32 v_10), (.int .u32 v_13)] T.uint32 (fun (v_14 : Sl) (h : Heap) =>
  callK Tryz.prog (.int .u32) F.ref01_Sum #[(.slice v_14.a v_14.n v_14.c)] (fun (v_15 : Int) (h : Heap) =>
  newSlK h 1 #[(.int .u32 v_15)] T.uint32 (fun (v_16 : Sl) (h : Heap) =>
  opK Tryz.prog .slice (Builtin.append_ #[T.sl_uint32, T.sl_uint32] T.sl_uint32 #[(.slice s_2.1.a s_2.1.n s_2.1.c), (.slice v_16.a v_16.n v_16.c)]) (fun (v_17 : Sl) (h : Heap) =>
  X_3 (v_17, IntKind.i64.wrap (s_2.2 + 1)) h) h)) h)) h) h))))))))
  else
  R (.slice s_2.1.a s_2.1.n s_2.1.c) h) (v_1.1, 16) h) h
def ref02_schedule.ann : Ann := (.seq .leaf (.seq .leaf (.seq (.seq .leaf (.block (.loop [(3, .slice), (5, (.int .i64))] (.seq (.seq .leaf (.cond .leaf .leaf)) (.seq (.block (.any (.loc 0 (.loc 1 (.loc 2 (.loc 3 (.loc 4 (.loc 6 (.loc 7 (.loc 8 (.loc 9 (.loc 12 (.loc 13 (.loc 14 (.loc 15 (.loc 17 (.loc 18 (.loc 19 (.loc 20 (.st 5 260046848 (.st 10 264243200 (.st 16 260046848 (.st 21 264241152 (.last 11 (.last 22 (.last 23 (.last 24 (.last 25 (.last 26 (.loc 27 .done)))))))))))))))))))))))))))))) .leaf))))) (.seq .leaf .leaf))))
theorem ref02_schedule.eq (block0 : Sl) (R : Value → Heap → Prop) (h : Heap) : ref02_schedule.body block0 R h = evFn Tryz.prog Tryz.f91 ref02_schedule.ann [(.slice block0.a block0.n block0.c)] R h := by kernel_rfl
theorem ref02_schedule.calls {block0 : Sl} {R : Value → Heap → Prop} {h : Heap} (H : ref02_schedule.body block0 R h) : HC Tryz.prog F.ref02_schedule #[(.slice block0.a block0.n block0.c)] R h :=
  evFn_sound mixed Tryz.func91 (by kernel_rfl) (ref02_schedule.eq block0 R h ▸ H)

/-! zugzwang/zugzwangref01.Choose -/
def ref01_Choose.body (x0 : Int) (a1 : Int) (b2 : Int) (R : Value → Heap → Prop) (h : Heap) : Prop :=
  loopW (fun X_2 (s_1 : Int × Int) (h : Heap) =>
  if (decide (s_1.2 < 32)) = true then
  callK Tryz.prog .bool F.ref01_bit #[(.int .u32 x0), (.int .i64 s_1.2)] (fun (v_3 : Bool) (h : Heap) =>
  if v_3 = true then
  callK Tryz.prog .bool F.ref01_bit #[(.int .u32 a1), (.int .i64 s_1.2)] (fun (v_4 : Bool) (h : Heap) =>
  if v_4 = true then
  callK Tryz.prog (.int .u32) F.ref01_place #[(.int .i64 s_1.2), (.bool true)] (fun (v_5 : Int) (h : Heap) =>
  X_2 (IntKind.u32.wrap (s_1.1 + v_5), IntKind.i64.wrap (s_1.2 + 1)) h) h
  else
  callK Tryz.prog .bool F.ref01_bit #[(.int .u32 x0), (.int .i64 s_1.2)] (fun (v_6 : Bool) (h : Heap) =>
  if (!v_6) = true then
  callK Tryz.prog .bool F.ref01_bit #[(.int .u32 b2), (.int .i64 s_1.2)] (fun (v_7 : Bool) (h : Heap) =>
  callK Tryz.prog (.int .u32) F.ref01_place #[(.int .i64 s_1.2), (.bool v_7)] (fun (v_8 : Int) (h : Heap) =>
  X_2 (IntKind.u32.wrap (s_1.1 + v_8), IntKind.i64.wrap (s_1.2 + 1)) h) h) h
  else
  callK Tryz.prog (.int .u32) F.ref01_place #[(.int .i64 s_1.2), (.bool false)] (fun (v_9 : Int) (h : Heap) =>
  X_2 (IntKind.u32.wrap (s_1.1 + v_9), IntKind.i64.wrap (s_1.2 + 1)) h) h) h) h
  else
  callK Tryz.prog .bool F.ref01_bit #[(.int .u32 x0), (.int .i64 s_1.2)] (fun (v_10 : Bool) (h : Heap) =>
  if (!v_10) = true then
  callK Tryz.prog .bool F.ref01_bit #[(.int .u32 b2), (.int .i64 s_1.2)] (fun (v_11 : Bool) (h : Heap) =>
  callK Tryz.prog (.int .u32) F.ref01_place #[(.int .i64 s_1.2), (.bool v_11)] (fun (v_12 : Int) (h : Heap) =>
  X_2 (IntKind.u32.wrap (s_1.1 + v_12), IntKind.i64.wrap (s_1.2 + 1)) h) h) h
  else
  callK Tryz.prog (.int .u32) F.ref01_place #[(.int .i64 s_1.2), (.bool false)] (fun (v_13 : Int) (h : Heap) =>
  X_2 (IntKind.u32.wrap (s_1.1 + v_13), IntKind.i64.wrap (s_1.2 + 1)) h) h) h) h
  else
  R (.int .u32 s_1.1) h) (0, 0) h
def ref01_Choose.ann : Ann := (.seq .leaf (.seq .leaf (.seq (.seq .leaf (.block (.loop [(7, (.int .u32)), (8, (.int .i64))] (.seq (.seq .leaf (.cond .leaf .leaf)) (.seq (.block .leaf) .leaf))))) (.seq .leaf .leaf))))
theorem ref01_Choose.eq (x0 : Int) (a1 : Int) (b2 : Int) (R : Value → Heap → Prop) (h : Heap) : ref01_Choose.body x0 a1 b2 R h = evFn Tryz.prog Tryz.f94 ref01_Choose.ann [(.int .u32 x0), (.int .u32 a1), (.int .u32 b2)] R h := by kernel_rfl
theorem ref01_Choose.calls {x0 : Int} {a1 : Int} {b2 : Int} {R : Value → Heap → Prop} {h : Heap} (H : ref01_Choose.body x0 a1 b2 R h) : HC Tryz.prog F.ref01_Choose #[(.int .u32 x0), (.int .u32 a1), (.int .u32 b2)] R h :=
  evFn_sound mixed Tryz.func94 (by kernel_rfl) (ref01_Choose.eq x0 a1 b2 R h ▸ H)

/-! zugzwang/zugzwangref01.Most -/
def ref01_Most.body (words0 : Sl) (R : Value → Heap → Prop) (h : Heap) : Prop :=
  loopW (fun X_2 (s_1 : Int × Int) (h : Heap) =>
  if (decide (s_1.2 < 32)) = true then
  loopW (fun X_4 (s_3 : Int × Int) (h : Heap) =>
  if (decide (s_3.2 < ((words0.n : Int)))) = true then
  idxK words0 s_3.2 (sizeOfT Tryz.prog T.uint32) (fun (a_5 : Addr) =>
  loadK (.int .u32) h ((some a_5)) (fun (v_6 : Int) =>
  callK Tryz.prog .bool F.ref01_bit #[(.int .u32 v_6), (.int .i64 s_1.2)] (fun (v_7 : Bool) (h : Heap) =>
  if v_7 = true then
  X_4 (IntKind.i64.wrap (s_3.1 + 1), IntKind.i64.wrap (s_3.2 + 1)) h
  else
  X_4 (IntKind.i64.wrap (s_3.1 - 1), IntKind.i64.wrap (s_3.2 + 1)) h) h))
  else
  callK Tryz.prog (.int .u32) F.ref01_place #[(.int .i64 s_1.2), (.bool (decide (s_3.1 > 0)))] (fun (v_8 : Int) (h : Heap) =>
  X_2 (IntKind.u32.wrap (s_1.1 + v_8), IntKind.i64.wrap (s_1.2 + 1)) h) h) (0, 0) h
  else
  R (.int .u32 s_1.1) h) (0, 0) h
def ref01_Most.ann : Ann := (.seq .leaf (.seq .leaf (.seq (.seq .leaf (.block (.loop [(3, (.int .u32)), (4, (.int .i64))] (.seq (.seq .leaf (.cond .leaf .leaf)) (.seq (.block (.seq .leaf (.seq (.seq .leaf (.block (.loop [(5, (.int .i64)), (6, (.int .i64))] (.seq (.seq .leaf (.cond .leaf .leaf)) (.seq (.block (.seq .leaf (.cond .leaf .leaf))) .leaf))))) .leaf))) .leaf))))) (.seq .leaf .leaf))))
theorem ref01_Most.eq (words0 : Sl) (R : Value → Heap → Prop) (h : Heap) : ref01_Most.body words0 R h = evFn Tryz.prog Tryz.f95 ref01_Most.ann [(.slice words0.a words0.n words0.c)] R h := by kernel_rfl
theorem ref01_Most.calls {words0 : Sl} {R : Value → Heap → Prop} {h : Heap} (H : ref01_Most.body words0 R h) : HC Tryz.prog F.ref01_Most #[(.slice words0.a words0.n words0.c)] R h :=
  evFn_sound mixed Tryz.func95 (by kernel_rfl) (ref01_Most.eq words0 R h ▸ H)

/-! zugzwang/zugzwangref01.Bytes -/
def ref01_Bytes.body (words0 : Sl) (R : Value → Heap → Prop) (h : Heap) : Prop :=
  loopW (fun X_2 (s_1 : Sl × Int) (h : Heap) =>
  if (decide (s_1.2 < ((words0.n : Int)))) = true then
  loopW (fun X_4 (s_3 : Sl × Int) (h : Heap) =>
  if (decide (s_3.2 ≥ 0)) = true then
  idxK words0 s_1.2 (sizeOfT Tryz.prog T.uint32) (fun (a_5 : Addr) =>
  loadK (.int .u32) h ((some a_5)) (fun (v_6 : Int) =>
  shiftK (IntKind.i64.wrap (8 * s_3.2))
  (divK 256
  (newSlK h 1 #[(.int .u8 (IntKind.u8.wrap (Int.tmod (Int.fdiv v_6 (2 ^ min (Int.toNat (IntKind.i64.wrap (8 * s_3.2))) (IntKind.bits .u32))) 256)))] T.uint8 (fun (v_7 : Sl) (h : Heap) =>
  opK Tryz.prog .slice (Builtin.append_ #[T.sl_uint8, T.sl_uint8] T.sl_uint8 #[(.slice s_3.1.a s_3.1.n s_3.1.c), (.slice v_7.a v_7.n v_7.c)]) (fun (v_8 : Sl) (h : Heap) =>
  X_4 (v_8, IntKind.i64.wrap (s_3.2 - 1)) h) h)))))
  else
  X_2 (s_3.1, IntKind.i64.wrap (s_1.2 + 1)) h) (s_1.1, 3) h
  else
  R (.slice s_1.1.a s_1.1.n s_1.1.c) h) (⟨none, 0, 0⟩, 0) h
def ref01_Bytes.ann : Ann := (.seq .leaf (.seq .leaf (.seq (.seq .leaf (.block (.loop [(3, .slice), (4, (.int .i64))] (.seq (.seq .leaf (.cond .leaf .leaf)) (.seq (.block (.seq .leaf (.block (.loop [(3, .slice), (5, (.int .i64))] (.seq (.seq .leaf (.cond .leaf .leaf)) (.seq (.block .leaf) .leaf)))))) .leaf))))) (.seq .leaf .leaf))))
theorem ref01_Bytes.eq (words0 : Sl) (R : Value → Heap → Prop) (h : Heap) : ref01_Bytes.body words0 R h = evFn Tryz.prog Tryz.f96 ref01_Bytes.ann [(.slice words0.a words0.n words0.c)] R h := by kernel_rfl
theorem ref01_Bytes.calls {words0 : Sl} {R : Value → Heap → Prop} {h : Heap} (H : ref01_Bytes.body words0 R h) : HC Tryz.prog F.ref01_Bytes #[(.slice words0.a words0.n words0.c)] R h :=
  evFn_sound mixed Tryz.func96 (by kernel_rfl) (ref01_Bytes.eq words0 R h ▸ H)

/-! zugzwang/zugzwangref02.Of -/
def ref02_Of.body (b0 : Sl) (R : Value → Heap → Prop) (h : Heap) : Prop :=
  newK h (zerosOf Tryz.prog T.api_Tag) T.api_Tag (fun (v_1 : Option Addr) (h : Heap) =>
  callK Tryz.prog .slice F.ref02_filled #[(.slice b0.a b0.n b0.c)] (fun (v_2 : Sl) (h : Heap) =>
  callK Tryz.prog .slice F.ref02_constants #[] (fun (v_3 : Sl) (h : Heap) =>
  callK Tryz.prog .slice F.ref02_begin #[] (fun (v_4 : Sl) (h : Heap) =>
  loopW (fun X_6 (s_5 : Int) (h : Heap) =>
  if (decide (s_5 < ((v_2.n : Int)))) = true then
  sliceK v_2 (some s_5) (some (IntKind.i64.wrap (s_5 + 64))) none (sizeOfT Tryz.prog T.uint8) (fun (v_7 : Sl) =>
  callK Tryz.prog .slice F.ref02_schedule #[(.slice v_7.a v_7.n v_7.c)] (fun (v_8 : Sl) (h : Heap) =>
  newSlK h 0 #[] T.uint32 (fun (v_9 : Sl) (h : Heap) =>
  opK Tryz.prog .slice (Builtin.append_ #[T.sl_uint32, T.sl_uint32] T.sl_uint32 #[(.slice v_9.a v_9.n v_9.c), (.slice v_4.a v_4.n v_4.c)]) (fun (v_10 : Sl) (h : Heap) =>
  loopW (fun X_12 (s_11 : Sl × Int) (h : Heap) =>
  if (decide (s_11.2 < 64)) = true then
  idxK s_11.1 7 (sizeOfT Tryz.prog T.uint32) (fun (a_13 : Addr) =>
  idxK s_11.1 4 (sizeOfT Tryz.prog T.uint32) (fun (a_14 : Addr) =>
  idxK s_11.1 4 (sizeOfT Tryz.prog T.uint32) (fun (a_15 : Addr) =>
  idxK s_11.1 5 (sizeOfT Tryz.prog T.uint32) (fun (a_16 : Addr) =>
  idxK s_11.1 6 (sizeOfT Tryz.prog T.uint32) (fun (a_17 : Addr) =>
  idxK v_3 s_11.2 (sizeOfT Tryz.prog T.uint32) (fun (a_18 : Addr) =>
  idxK v_8 s_11.2 (sizeOfT Tryz.prog T.uint32) (fun (a_19 : Addr) =>
  loadK (.int .u32) h ((some a_13)) (fun (v_20 : Int) =>
  loadK (.int .u32) h ((some a_14)) (fun (v_21 : Int) =>
  loadK (.int .u32) h ((some a_15)) (fun (v_22 : Int) =>
  loadK (.int .u32) h ((some a_16)) (fun (v_23 : Int) =>
  loadK (.int .u32) h ((some a_17)) (fun (v_24 : Int) =>
  loadK (.int .u32) h ((some a_18)) (fun (v_25 : Int) =>
  loadK (.int .u32) h ((some a_19)) (fun (v_26 : Int) =>
  newSlK h 3 #[(.int .i64 6), (.int .i64 11), (.int .i64 25)] T.int (fun (v_27 : Sl) (h : Heap) =>
  callK Tryz.prog (.int .u32) F.ref01_Mix #[(.int .u32 v_21), (.slice v_27.a v_27.n v_27.c)] (fun (v_28 : Int) (h : Heap) =>
  stillK (.int .u32) h ((some a_19)) v_26 ∧
  stillK (.int .u32) h ((some a_18)) v_25 ∧
  stillK (.int .u32) h ((some a_17)) v_24 ∧
  stillK (.int .u32) h ((some a_16)) v_23 ∧
  stillK (.int .u32) h ((some a_15)) v_22 ∧
  stillK (.int .u32) h ((some a_13)) v_20 ∧
  callK Tryz.prog (.int .u32) F.ref01_Choose #[(.int .u32 v_22), (.int .u32 v_23), (.int .u32 v_24)] (fun (v_29 : Int) (h : Heap) =>
  stillK (.int .u32) h ((some a_19)) v_26 ∧
  stillK (.int .u32) h ((some a_18)) v_25 ∧
  stillK (.int .u32) h ((some a_13)) v_20 ∧
  newSlK h 5 #[(.int .u32 v_20), (.int .u32 v_28), (.int .u32 v_29), (.int .u32 v_25), (.int .u32 v_26)] T.uint32 (fun (v_30 : Sl) (h : Heap) =>
  callK Tryz.prog (.int .u32) F.ref01_Sum #[(.slice v_30.a v_30.n v_30.c)] (fun (v_31 : Int) (h : Heap) =>
  idxK s_11.1 0 (sizeOfT Tryz.prog T.uint32) (fun (a_32 : Addr) =>
  sliceK s_11.1 none (some 3) none (sizeOfT Tryz.prog T.uint32) (fun (v_33 : Sl) =>
  loadK (.int .u32) h ((some a_32)) (fun (v_34 : Int) =>
  newSlK h 3 #[(.int .i64 2), (.int .i64 13), (.int .i64 22)] T.int (fun (v_35 : Sl) (h : Heap) =>
  callK Tryz.prog (.int .u32) F.ref01_Mix #[(.int .u32 v_34), (.slice v_35.a v_35.n v_35.c)] (fun (v_36 : Int) (h : Heap) =>
  callK Tryz.prog (.int .u32) F.ref01_Most #[(.slice v_33.a v_33.n v_33.c)] (fun (v_37 : Int) (h : Heap) =>
  newSlK h 2 #[(.int .u32 v_36), (.int .u32 v_37)] T.uint32 (fun (v_38 : Sl) (h : Heap) =>
  callK Tryz.prog (.int .u32) F.ref01_Sum #[(.slice v_38.a v_38.n v_38.c)] (fun (v_39 : Int) (h : Heap) =>
  idxK s_11.1 0 (sizeOfT Tryz.prog T.uint32) (fun (a_40 : Addr) =>
  idxK s_11.1 1 (sizeOfT Tryz.prog T.uint32) (fun (a_41 : Addr) =>
  idxK s_11.1 2 (sizeOfT Tryz.prog T.uint32) (fun (a_42 : Addr) =>
  idxK s_11.1 3 (sizeOfT Tryz.prog T.uint32) (fun (a_43 : Addr) =>
  idxK s_11.1 4 (sizeOfT Tryz.prog T.uint32) (fun (a_44 : Addr) =>
  idxK s_11.1 5 (sizeOfT Tryz.prog T.uint32) (fun (a_45 : Addr) =>
  idxK s_11.1 6 (sizeOfT Tryz.prog T.uint32) (fun (a_46 : Addr) =>
  loadK (.int .u32) h ((some a_40)) (fun (v_47 : Int) =>
  loadK (.int .u32) h ((some a_41)) (fun (v_48 : Int) =>
  loadK (.int .u32) h ((some a_42)) (fun (v_49 : Int) =>
  loadK (.int .u32) h ((some a_43)) (fun (v_50 : Int) =>
  loadK (.int .u32) h ((some a_44)) (fun (v_51 : Int) =>
  loadK (.int .u32) h ((some a_45)) (fun (v_52 : Int) =>
  loadK (.int .u32) h ((some a_46)) (fun (v_53 : Int) =>
  newSlK h 8 #[(.int .u32 (IntKind.u32.wrap (v_31 + v_39))), (.int .u32 v_47), (.int .u32 v_48), (.int .u32 v_49), (.int .u32 (IntKind.u32.wrap (v_50 + v_31))), (.int .u32 v_51), (.int .u32 v_52), (.int .u32 v_53)] T.uint32 (fun (v_54 : Sl) (h : Heap) =>
  X_12 (v_54, IntKind.i64.wrap (s_11.2 + 1)) h)))))))))))))))) h)) h) h))))) h)) h) h)))))))))))))))
  else
  loopW (fun X_56 (s_55 : Int) (h : Heap) =>
  if (decide (s_55 < 8)) = true then
  idxK v_4 s_55 (sizeOfT Tryz.prog T.uint32) (fun (a_57 : Addr) =>
  idxK s_11.1 s_55 (sizeOfT Tryz.prog T.uint32) (fun (a_58 : Addr) =>
  loadK (.int .u32) h ((some a_57)) (fun (v_59 : Int) =>
  loadK (.int .u32) h ((some a_58)) (fun (v_60 : Int) =>
  idxK v_4 s_55 (sizeOfT Tryz.prog T.uint32) (fun (a_61 : Addr) =>
  storeK h ((some a_61)) (.int .u32 (IntKind.u32.wrap (v_59 + v_60))) (fun (h : Heap) =>
  X_56 (IntKind.i64.wrap (s_55 + 1)) h))))))
  else
  X_6 (IntKind.i64.wrap (s_5 + 64)) h) 0 h) (v_10, 0) h) h)) h)
  else
  newK h (zerosOf Tryz.prog T.api_Tag) T.api_Tag (fun (out_62 : Option Addr) (h : Heap) =>
  callK Tryz.prog .slice F.ref01_Bytes #[(.slice v_4.a v_4.n v_4.c)] (fun (v_63 : Sl) (h : Heap) =>
  loopW (fun X_65 (s_64 : Int) (h : Heap) =>
  if (decide (s_64 < 32)) = true then
  idxK v_63 s_64 (sizeOfT Tryz.prog T.uint8) (fun (a_66 : Addr) =>
  loadK (.int .u8) h ((some a_66)) (fun (v_67 : Int) =>
  idxArrK out_62 32 s_64 (sizeOfT Tryz.prog T.uint8) (fun (a_68 : Addr) =>
  storeK h ((some a_68)) (.int .u8 v_67) (fun (h : Heap) =>
  X_65 (IntKind.i64.wrap (s_64 + 1)) h))))
  else
  loadAggK (sizeOfT Tryz.prog T.api_Tag) h out_62 (fun (v_69 : Array Value) =>
  storeAggK (sizeOfT Tryz.prog T.api_Tag) h v_1 v_69 (fun (h : Heap) =>
  quietK Tryz.prog .agg (Instr.loadAt T.api_Tag (.pointer v_1)) (fun (r_70 : Array Value) =>
  R (.agg r_70) h) h))) 0 h) h)) 0 h) h) h) h)
def ref02_Of.ann : Ann := (.seq .leaf (.seq .leaf (.seq .leaf (.seq .leaf (.seq (.seq .leaf (.block (.loop [(6, (.int .i64))] (.seq (.seq .leaf (.cond .leaf .leaf)) (.seq (.block (.seq .leaf (.seq .leaf (.seq (.seq .leaf (.block (.loop [(8, .slice), (9, (.int .i64))] (.seq (.seq .leaf (.cond .leaf .leaf)) (.seq (.block (.seq (.any (.loc 0 (.loc 1 (.loc 3 (.loc 4 (.loc 8 (.loc 9 (.loc 11 (.loc 12 (.loc 14 (.loc 15 (.loc 18 (.loc 19 (.loc 20 (.loc 22 (.loc 23 (.loc 24 (.st 2 469762048 (.st 5 469893248 (.st 10 469893120 (.st 13 469893120 (.st 16 469893120 (.st 21 469762048 (.st 25 469762048 (.last 6 (.last 7 (.last 17 (.last 26 (.last 27 (.loc 28 .done)))))))))))))))))))))))))))))) (.seq (.any (.loc 0 (.loc 1 (.loc 5 (.loc 6 (.st 2 1936 (.last 3 (.last 4 (.last 7 (.last 8 (.last 9 (.loc 10 .done)))))))))))) (.any (.loc 0 (.loc 1 (.loc 2 (.loc 3 (.loc 4 (.loc 6 (.loc 7 (.loc 9 (.loc 10 (.loc 12 (.loc 13 (.loc 15 (.loc 17 (.loc 18 (.loc 20 (.loc 21 (.loc 23 (.loc 24 (.st 5 201326592 (.st 8 201326592 (.st 11 201326592 (.st 14 201392128 (.loc 16 (.st 19 201326592 (.st 22 201326592 (.st 25 201326592 (.last 26 (.loc 27 .done)))))))))))))))))))))))))))))))) .leaf))))) (.seq .leaf (.block (.loop [(12, (.int .i64))] (.seq (.seq .leaf (.cond .leaf .leaf)) (.seq (.block (.any (.loc 0 (.loc 1 (.loc 2 (.loc 3 (.loc 4 (.loc 6 (.loc 7 (.loc 8 (.st 5 7168 (.st 9 7168 (.loc 10 (.loc 11 (.last 12 .done))))))))))))))) .leaf))))))))) .leaf))))) (.seq .leaf (.seq .leaf (.seq (.seq .leaf (.block (.loop [(14, (.int .i64))] (.seq (.seq .leaf (.cond .leaf .leaf)) (.seq (.block .leaf) .leaf))))) (.seq .leaf .leaf)))))))))
theorem ref02_Of.eq (b0 : Sl) (R : Value → Heap → Prop) (h : Heap) : ref02_Of.body b0 R h = evFn Tryz.prog Tryz.f73 ref02_Of.ann [(.slice b0.a b0.n b0.c)] R h := by kernel_rfl
theorem ref02_Of.calls {b0 : Sl} {R : Value → Heap → Prop} {h : Heap} (H : ref02_Of.body b0 R h) : HC Tryz.prog F.ref02_Of #[(.slice b0.a b0.n b0.c)] R h :=
  evFn_sound mixed Tryz.func73 (by kernel_rfl) (ref02_Of.eq b0 R h ▸ H)

/-! zugzwang/zugzwangref04.eight -/
def ref04_eight.body (n0 : Int) (R : Value → Heap → Prop) (h : Heap) : Prop :=
  loopW (fun X_2 (s_1 : Sl × Int) (h : Heap) =>
  if (decide (s_1.2 ≥ 0)) = true then
  shiftK (IntKind.i64.wrap (8 * s_1.2))
  (newSlK h 1 #[(.int .u8 (IntKind.u8.wrap (Int.fdiv (IntKind.u64.wrap n0) (2 ^ min (Int.toNat (IntKind.i64.wrap (8 * s_1.2))) (IntKind.bits .u64)))))] T.uint8 (fun (v_3 : Sl) (h : Heap) =>
  opK Tryz.prog .slice (Builtin.append_ #[T.sl_uint8, T.sl_uint8] T.sl_uint8 #[(.slice s_1.1.a s_1.1.n s_1.1.c), (.slice v_3.a v_3.n v_3.c)]) (fun (v_4 : Sl) (h : Heap) =>
  X_2 (v_4, IntKind.i64.wrap (s_1.2 - 1)) h) h))
  else
  R (.slice s_1.1.a s_1.1.n s_1.1.c) h) (⟨none, 0, 0⟩, 7) h
def ref04_eight.ann : Ann := (.seq .leaf (.seq .leaf (.seq (.seq .leaf (.block (.loop [(3, .slice), (4, (.int .i64))] (.seq (.seq .leaf (.cond .leaf .leaf)) (.seq (.block .leaf) .leaf))))) (.seq .leaf .leaf))))
theorem ref04_eight.eq (n0 : Int) (R : Value → Heap → Prop) (h : Heap) : ref04_eight.body n0 R h = evFn Tryz.prog Tryz.f112 ref04_eight.ann [(.int .i64 n0)] R h := by kernel_rfl
theorem ref04_eight.calls {n0 : Int} {R : Value → Heap → Prop} {h : Heap} (H : ref04_eight.body n0 R h) : HC Tryz.prog F.ref04_eight #[(.int .i64 n0)] R h :=
  evFn_sound mixed Tryz.func112 (by kernel_rfl) (ref04_eight.eq n0 R h ▸ H)

/-! zugzwang/zugzwangref04.Number -/
def ref04_Number.body (n0 : Int) (R : Value → Heap → Prop) (h : Heap) : Prop :=
  newK h (zerosOf Tryz.prog T.api_Tag) T.api_Tag (fun (v_1 : Option Addr) (h : Heap) =>
  newK h (zerosOf Tryz.prog T.api_Tag) T.api_Tag (fun (t_2 : Option Addr) (h : Heap) =>
  newSlK h 8 #[(.int .u8 122), (.int .u8 117), (.int .u8 103), (.int .u8 122), (.int .u8 119), (.int .u8 97), (.int .u8 110), (.int .u8 103)] T.uint8 (fun (v_3 : Sl) (h : Heap) =>
  opK Tryz.prog .slice (convert T.sl_uint8 T.sl_uint8 (.slice v_3.a v_3.n v_3.c)) (fun (v_4 : Sl) (h : Heap) =>
  callK Tryz.prog .slice F.ref04_eight #[(.int .i64 n0)] (fun (v_5 : Sl) (h : Heap) =>
  opK Tryz.prog .slice (Builtin.append_ #[T.sl_uint8, T.sl_uint8] T.sl_uint8 #[(.slice v_4.a v_4.n v_4.c), (.slice v_5.a v_5.n v_5.c)]) (fun (v_6 : Sl) (h : Heap) =>
  loopW (fun X_8 (s_7 : Int) (h : Heap) =>
  if (decide (s_7 < ((v_6.n : Int)))) = true then
  idxK v_6 s_7 (sizeOfT Tryz.prog T.uint8) (fun (a_9 : Addr) =>
  loadK (.int .u8) h ((some a_9)) (fun (v_10 : Int) =>
  idxArrK t_2 32 s_7 (sizeOfT Tryz.prog T.uint8) (fun (a_11 : Addr) =>
  storeK h ((some a_11)) (.int .u8 v_10) (fun (h : Heap) =>
  X_8 (IntKind.i64.wrap (s_7 + 1)) h))))
  else
  loadAggK (sizeOfT Tryz.prog T.api_Tag) h t_2 (fun (v_12 : Array Value) =>
  storeAggK (sizeOfT Tryz.prog T.api_Tag) h v_1 v_12 (fun (h : Heap) =>
  quietK Tryz.prog .agg (Instr.loadAt T.api_Tag (.pointer v_1)) (fun (r_13 : Array Value) =>
  R (.agg r_13) h) h))) 0 h) h) h) h)))
def ref04_Number.ann : Ann := (.seq .leaf (.seq .leaf (.seq .leaf (.seq (.seq .leaf (.block (.loop [(5, (.int .i64))] (.seq (.seq .leaf (.cond .leaf .leaf)) (.seq (.block .leaf) .leaf))))) (.seq .leaf .leaf)))))
theorem ref04_Number.eq (n0 : Int) (R : Value → Heap → Prop) (h : Heap) : ref04_Number.body n0 R h = evFn Tryz.prog Tryz.f97 ref04_Number.ann [(.int .i64 n0)] R h := by kernel_rfl
theorem ref04_Number.calls {n0 : Int} {R : Value → Heap → Prop} {h : Heap} (H : ref04_Number.body n0 R h) : HC Tryz.prog F.ref04_Number #[(.int .i64 n0)] R h :=
  evFn_sound mixed Tryz.func97 (by kernel_rfl) (ref04_Number.eq n0 R h ▸ H)

/-! (*zugzwang/zugzwangref04.Maker).ask -/
def ref04_Maker_ask.body (m0 : Option Addr) (x1 : Array Value) (R : Value → Heap → Prop) (h : Heap) : Prop :=
  newK h x1 T.zugzwangref04_Thing (fun (x_1 : Option Addr) (h : Heap) =>
  newK h (zerosOf Tryz.prog T.api_Tag) T.api_Tag (fun (v_2 : Option Addr) (h : Heap) =>
  loopW (fun X_4 (s_3 : Int) (h : Heap) =>
  derefK m0 (fun (a_5 : Addr) =>
  fldK ((some a_5)) 2 (fun (a_6 : Addr) =>
  loadK .slice h ((some a_6)) (fun (v_7 : Sl) =>
  if (decide (s_3 < ((v_7.n : Int)))) = true then
  derefK m0 (fun (a_8 : Addr) =>
  fldK ((some a_8)) 2 (fun (a_9 : Addr) =>
  loadK .slice h ((some a_9)) (fun (v_10 : Sl) =>
  idxK v_10 s_3 (sizeOfT Tryz.prog T.zugzwangref04_Thing) (fun (a_11 : Addr) =>
  loadAggK (sizeOfT Tryz.prog T.zugzwangref04_Thing) h ((some a_11)) (fun (v_12 : Array Value) =>
  loadAggK (sizeOfT Tryz.prog T.zugzwangref04_Thing) h x_1 (fun (v_13 : Array Value) =>
  eqK Tryz.prog (binSem .eql T.zugzwangref04_Thing (.tmp 21) (.tmp 22) (.agg v_12) (.agg v_13)) (fun (v_14 : Bool) =>
  if v_14 = true then
  callK Tryz.prog .agg F.ref04_Number #[(.int .i64 s_3)] (fun (v_15 : Array Value) (h : Heap) =>
  storeAggK (sizeOfT Tryz.prog T.api_Tag) h v_2 v_15 (fun (h : Heap) =>
  quietK Tryz.prog .agg (Instr.loadAt T.api_Tag (.pointer v_2)) (fun (r_16 : Array Value) =>
  R (.agg r_16) h) h)) h
  else
  X_4 (IntKind.i64.wrap (s_3 + 1)) h)))))))
  else
  derefK m0 (fun (a_17 : Addr) =>
  fldK ((some a_17)) 2 (fun (a_18 : Addr) =>
  loadK .slice h ((some a_18)) (fun (v_19 : Sl) =>
  loadAggK (sizeOfT Tryz.prog T.zugzwangref04_Thing) h x_1 (fun (v_20 : Array Value) =>
  opK Tryz.prog .slice (Instr.buildSlice T.sl_zugzwangref04_Thing 1 #[(0, (.agg v_20))]) (fun (v_21 : Sl) (h : Heap) =>
  opK Tryz.prog .slice (Builtin.append_ #[T.sl_zugzwangref04_Thing, T.sl_zugzwangref04_Thing] T.sl_zugzwangref04_Thing #[(.slice v_19.a v_19.n v_19.c), (.slice v_21.a v_21.n v_21.c)]) (fun (v_22 : Sl) (h : Heap) =>
  derefK m0 (fun (a_23 : Addr) =>
  fldK ((some a_23)) 2 (fun (a_24 : Addr) =>
  storeK h ((some a_24)) (.slice v_22.a v_22.n v_22.c) (fun (h : Heap) =>
  derefK m0 (fun (a_25 : Addr) =>
  fldK ((some a_25)) 2 (fun (a_26 : Addr) =>
  loadK .slice h ((some a_26)) (fun (v_27 : Sl) =>
  callK Tryz.prog .agg F.ref04_Number #[(.int .i64 (IntKind.i64.wrap (((v_27.n : Int)) - 1)))] (fun (v_28 : Array Value) (h : Heap) =>
  storeAggK (sizeOfT Tryz.prog T.api_Tag) h v_2 v_28 (fun (h : Heap) =>
  quietK Tryz.prog .agg (Instr.loadAt T.api_Tag (.pointer v_2)) (fun (r_29 : Array Value) =>
  R (.agg r_29) h) h)) h))))))) h) h)))))))) 0 h))
def ref04_Maker_ask.ann : Ann := (.seq .leaf (.seq (.seq .leaf (.block (.loop [(5, (.int .i64))] (.seq (.seq .leaf (.cond .leaf .leaf)) (.seq (.block (.seq .leaf (.cond (.seq .leaf .leaf) .leaf))) .leaf))))) (.seq (.any (.loc 0 (.loc 1 (.loc 2 (.loc 3 (.st 4 1920 (.st 5 1984 (.last 6 (.last 7 (.loc 8 (.loc 9 (.last 10 .done)))))))))))) (.seq .leaf .leaf))))
theorem ref04_Maker_ask.eq (m0 : Option Addr) (x1 : Array Value) (R : Value → Heap → Prop) (h : Heap) : ref04_Maker_ask.body m0 x1 R h = evFn Tryz.prog Tryz.f74 ref04_Maker_ask.ann [(.pointer m0), (.agg x1)] R h := by kernel_rfl
theorem ref04_Maker_ask.calls {m0 : Option Addr} {x1 : Array Value} {R : Value → Heap → Prop} {h : Heap} (H : ref04_Maker_ask.body m0 x1 R h) : HC Tryz.prog F.ref04_Maker_ask #[(.pointer m0), (.agg x1)] R h :=
  evFn_sound mixed Tryz.func74 (by kernel_rfl) (ref04_Maker_ask.eq m0 x1 R h ▸ H)

/-! (*zugzwang/zugzwangref04.Maker).Sum -/
def ref04_Maker_Sum.body (m0 : Option Addr) (b1 : Sl) (R : Value → Heap → Prop) (h : Heap) : Prop :=
  newK h (zerosOf Tryz.prog T.api_Tag) T.api_Tag (fun (v_1 : Option Addr) (h : Heap) =>
  derefK m0 (fun (a_2 : Addr) =>
  fldK ((some a_2)) 0 (fun (a_3 : Addr) =>
  loadK .bool h ((some a_3)) (fun (v_4 : Bool) =>
  if v_4 = true then
  callK Tryz.prog .agg F.ref02_Of #[(.slice b1.a b1.n b1.c)] (fun (v_5 : Array Value) (h : Heap) =>
  storeAggK (sizeOfT Tryz.prog T.api_Tag) h v_1 v_5 (fun (h : Heap) =>
  quietK Tryz.prog .agg (Instr.loadAt T.api_Tag (.pointer v_1)) (fun (r_6 : Array Value) =>
  R (.agg r_6) h) h)) h
  else
  opK Tryz.prog .str (convert T.sl_uint8 T.string (.slice b1.a b1.n b1.c)) (fun (v_7 : ByteArray) (h : Heap) =>
  buildK Tryz.prog (Instr.build T.zugzwangref04_Thing #[(0, (.int .i64 0)), (2, (.string v_7))]) (fun (v_8 : Array Value) =>
  callK Tryz.prog .agg F.ref04_Maker_ask #[(.pointer m0), (.agg v_8)] (fun (v_9 : Array Value) (h : Heap) =>
  storeAggK (sizeOfT Tryz.prog T.api_Tag) h v_1 v_9 (fun (h : Heap) =>
  quietK Tryz.prog .agg (Instr.loadAt T.api_Tag (.pointer v_1)) (fun (r_10 : Array Value) =>
  R (.agg r_10) h) h)) h)) h))))
def ref04_Maker_Sum.ann : Ann := (.seq .leaf (.seq (.seq .leaf (.cond (.seq .leaf .leaf) .leaf)) (.seq .leaf .leaf)))
theorem ref04_Maker_Sum.eq (m0 : Option Addr) (b1 : Sl) (R : Value → Heap → Prop) (h : Heap) : ref04_Maker_Sum.body m0 b1 R h = evFn Tryz.prog Tryz.f55 ref04_Maker_Sum.ann [(.pointer m0), (.slice b1.a b1.n b1.c)] R h := by kernel_rfl
theorem ref04_Maker_Sum.calls {m0 : Option Addr} {b1 : Sl} {R : Value → Heap → Prop} {h : Heap} (H : ref04_Maker_Sum.body m0 b1 R h) : HC Tryz.prog F.ref04_Maker_Sum #[(.pointer m0), (.slice b1.a b1.n b1.c)] R h :=
  evFn_sound mixed Tryz.func55 (by kernel_rfl) (ref04_Maker_Sum.eq m0 b1 R h ▸ H)

/-! zugzwang/zugzwangref17.Four -/
def ref17_Four.body (n0 : Int) (R : Value → Heap → Prop) (h : Heap) : Prop :=
  shiftK 24
  (shiftK 16
  (shiftK 8
  (newSlK h 4 #[(.int .u8 (IntKind.u8.wrap (Int.fdiv n0 (2 ^ min (Int.toNat 24) (IntKind.bits .i64))))), (.int .u8 (IntKind.u8.wrap (Int.fdiv n0 (2 ^ min (Int.toNat 16) (IntKind.bits .i64))))), (.int .u8 (IntKind.u8.wrap (Int.fdiv n0 (2 ^ min (Int.toNat 8) (IntKind.bits .i64))))), (.int .u8 (IntKind.u8.wrap n0))] T.uint8 (fun (v_1 : Sl) (h : Heap) =>
  R (.slice v_1.a v_1.n v_1.c) h))))
def ref17_Four.ann : Ann := (.seq .leaf (.seq .leaf .leaf))
theorem ref17_Four.eq (n0 : Int) (R : Value → Heap → Prop) (h : Heap) : ref17_Four.body n0 R h = evFn Tryz.prog Tryz.f56 ref17_Four.ann [(.int .i64 n0)] R h := by kernel_rfl
theorem ref17_Four.calls {n0 : Int} {R : Value → Heap → Prop} {h : Heap} (H : ref17_Four.body n0 R h) : HC Tryz.prog F.ref17_Four #[(.int .i64 n0)] R h :=
  evFn_sound mixed Tryz.func56 (by kernel_rfl) (ref17_Four.eq n0 R h ▸ H)

/-! zugzwang/zugzwangref26.Frame -/
def ref26_Frame.body (m0 : Option Addr) (place1 : Int) (b2 : Sl) (R : Value → Heap → Prop) (h : Heap) : Prop :=
  newSlK h 4 #[(.int .u8 102), (.int .u8 105), (.int .u8 108), (.int .u8 101)] T.uint8 (fun (v_1 : Sl) (h : Heap) =>
  opK Tryz.prog .slice (convert T.sl_uint8 T.sl_uint8 (.slice v_1.a v_1.n v_1.c)) (fun (v_2 : Sl) (h : Heap) =>
  callK Tryz.prog .slice F.ref17_Four #[(.int .i64 place1)] (fun (v_3 : Sl) (h : Heap) =>
  opK Tryz.prog .slice (Builtin.append_ #[T.sl_uint8, T.sl_uint8] T.sl_uint8 #[(.slice v_2.a v_2.n v_2.c), (.slice v_3.a v_3.n v_3.c)]) (fun (v_4 : Sl) (h : Heap) =>
  opK Tryz.prog .slice (Builtin.append_ #[T.sl_uint8, T.sl_uint8] T.sl_uint8 #[(.slice v_4.a v_4.n v_4.c), (.slice b2.a b2.n b2.c)]) (fun (v_5 : Sl) (h : Heap) =>
  callK Tryz.prog .agg F.ref04_Maker_Sum #[(.pointer m0), (.slice v_5.a v_5.n v_5.c)] (fun (v_6 : Array Value) (h : Heap) =>
  newK h (zerosOf Tryz.prog T.api_Tag) T.api_Tag (fun (t_7 : Option Addr) (h : Heap) =>
  storeAggK (sizeOfT Tryz.prog T.api_Tag) h t_7 v_6 (fun (h : Heap) =>
  callK Tryz.prog .slice F.ref17_Four #[(.int .i64 ((b2.n : Int)))] (fun (v_8 : Sl) (h : Heap) =>
  opK Tryz.prog .slice (Builtin.append_ #[T.sl_uint8, T.sl_uint8] T.sl_uint8 #[(.slice v_8.a v_8.n v_8.c), (.slice b2.a b2.n b2.c)]) (fun (v_9 : Sl) (h : Heap) =>
  loopW (fun X_11 (s_10 : Sl × Int) (h : Heap) =>
  if (decide (s_10.2 < 32)) = true then
  idxArrK t_7 32 s_10.2 (sizeOfT Tryz.prog T.uint8) (fun (a_12 : Addr) =>
  loadK (.int .u8) h ((some a_12)) (fun (v_13 : Int) =>
  newSlK h 1 #[(.int .u8 v_13)] T.uint8 (fun (v_14 : Sl) (h : Heap) =>
  opK Tryz.prog .slice (Builtin.append_ #[T.sl_uint8, T.sl_uint8] T.sl_uint8 #[(.slice s_10.1.a s_10.1.n s_10.1.c), (.slice v_14.a v_14.n v_14.c)]) (fun (v_15 : Sl) (h : Heap) =>
  X_11 (v_15, IntKind.i64.wrap (s_10.2 + 1)) h) h)))
  else
  R (.slice s_10.1.a s_10.1.n s_10.1.c) h) (v_9, 0) h) h) h))) h) h) h) h) h)
def ref26_Frame.ann : Ann := (.seq .leaf (.seq .leaf (.seq .leaf (.seq (.seq .leaf (.block (.loop [(8, .slice), (9, (.int .i64))] (.seq (.seq .leaf (.cond .leaf .leaf)) (.seq (.block .leaf) .leaf))))) (.seq .leaf .leaf)))))
theorem ref26_Frame.eq (m0 : Option Addr) (place1 : Int) (b2 : Sl) (R : Value → Heap → Prop) (h : Heap) : ref26_Frame.body m0 place1 b2 R h = evFn Tryz.prog Tryz.f25 ref26_Frame.ann [(.pointer m0), (.int .i64 place1), (.slice b2.a b2.n b2.c)] R h := by kernel_rfl
theorem ref26_Frame.calls {m0 : Option Addr} {place1 : Int} {b2 : Sl} {R : Value → Heap → Prop} {h : Heap} (H : ref26_Frame.body m0 place1 b2 R h) : HC Tryz.prog F.ref26_Frame #[(.pointer m0), (.int .i64 place1), (.slice b2.a b2.n b2.c)] R h :=
  evFn_sound mixed Tryz.func25 (by kernel_rfl) (ref26_Frame.eq m0 place1 b2 R h ▸ H)

/-! zugzwang/zugzwangref26.begins -/
def ref26_begins.body (s0 : Sl) (with1 : Sl) (R : Value → Heap → Prop) (h : Heap) : Prop :=
  loopW (fun X_2 (s_1 : Int) (h : Heap) =>
  if (decide (s_1 < ((with1.n : Int)))) = true then
  if (decide (s_1 ≥ ((s0.n : Int)))) = true then
  R (.bool false) h
  else
  idxK s0 s_1 (sizeOfT Tryz.prog T.uint8) (fun (a_3 : Addr) =>
  loadK (.int .u8) h ((some a_3)) (fun (v_4 : Int) =>
  idxK with1 s_1 (sizeOfT Tryz.prog T.uint8) (fun (a_5 : Addr) =>
  loadK (.int .u8) h ((some a_5)) (fun (v_6 : Int) =>
  if (v_4 != v_6) = true then
  R (.bool false) h
  else
  X_2 (IntKind.i64.wrap (s_1 + 1)) h))))
  else
  R (.bool true) h) 0 h
def ref26_begins.ann : Ann := (.seq .leaf (.seq (.seq .leaf (.block (.loop [(5, (.int .i64))] (.seq (.seq .leaf (.cond .leaf .leaf)) (.seq (.block (.seq .leaf (.cond (.seq .leaf .leaf) .leaf))) .leaf))))) (.seq .leaf .leaf)))
theorem ref26_begins.eq (s0 : Sl) (with1 : Sl) (R : Value → Heap → Prop) (h : Heap) : ref26_begins.body s0 with1 R h = evFn Tryz.prog Tryz.f64 ref26_begins.ann [(.slice s0.a s0.n s0.c), (.slice with1.a with1.n with1.c)] R h := by kernel_rfl
theorem ref26_begins.calls {s0 : Sl} {with1 : Sl} {R : Value → Heap → Prop} {h : Heap} (H : ref26_begins.body s0 with1 R h) : HC Tryz.prog F.ref26_begins #[(.slice s0.a s0.n s0.c), (.slice with1.a with1.n with1.c)] R h :=
  evFn_sound mixed Tryz.func64 (by kernel_rfl) (ref26_begins.eq s0 with1 R h ▸ H)

/-! zugzwang/zugzwangref26.Records -/
def ref26_Records.body (m0 : Option Addr) (b1 : Sl) (R : Value → Heap → Prop) (h : Heap) : Prop :=
  loopW (fun X_2 (s_1 : Sl × Int) (h : Heap) =>
  if (decide ((IntKind.i64.wrap (s_1.2 + 36)) ≤ ((b1.n : Int)))) = true then
  loopW (fun X_4 (s_3 : Int × Int) (h : Heap) =>
  if (decide (s_3.2 < 4)) = true then
  idxK b1 (IntKind.i64.wrap (s_1.2 + s_3.2)) (sizeOfT Tryz.prog T.uint8) (fun (a_5 : Addr) =>
  loadK (.int .u8) h ((some a_5)) (fun (v_6 : Int) =>
  X_4 (IntKind.i64.wrap ((IntKind.i64.wrap (256 * s_3.1)) + (IntKind.i64.wrap v_6)), IntKind.i64.wrap (s_3.2 + 1)) h))
  else
  if (decide (s_3.1 > 4096)) = true then
  R (.tuple #[(.slice s_1.1.a s_1.1.n s_1.1.c), (.int .i64 s_1.2)]) h
  else
  if (decide ((IntKind.i64.wrap ((IntKind.i64.wrap (s_1.2 + 36)) + s_3.1)) > ((b1.n : Int)))) = true then
  R (.tuple #[(.slice s_1.1.a s_1.1.n s_1.1.c), (.int .i64 s_1.2)]) h
  else
  newSlK h 0 #[] T.uint8 (fun (v_7 : Sl) (h : Heap) =>
  sliceK b1 (some (IntKind.i64.wrap (s_1.2 + 4))) (some (IntKind.i64.wrap ((IntKind.i64.wrap (s_1.2 + 4)) + s_3.1))) none (sizeOfT Tryz.prog T.uint8) (fun (v_8 : Sl) =>
  opK Tryz.prog .slice (Builtin.append_ #[T.sl_uint8, T.sl_uint8] T.sl_uint8 #[(.slice v_7.a v_7.n v_7.c), (.slice v_8.a v_8.n v_8.c)]) (fun (v_9 : Sl) (h : Heap) =>
  sliceK b1 (some s_1.2) none none (sizeOfT Tryz.prog T.uint8) (fun (v_10 : Sl) =>
  callK Tryz.prog .slice F.ref26_Frame #[(.pointer m0), (.int .i64 ((s_1.1.n : Int))), (.slice v_9.a v_9.n v_9.c)] (fun (v_11 : Sl) (h : Heap) =>
  callK Tryz.prog .bool F.ref26_begins #[(.slice v_10.a v_10.n v_10.c), (.slice v_11.a v_11.n v_11.c)] (fun (v_12 : Bool) (h : Heap) =>
  if (!v_12) = true then
  R (.tuple #[(.slice s_1.1.a s_1.1.n s_1.1.c), (.int .i64 s_1.2)]) h
  else
  newSlK h 1 #[(.slice v_9.a v_9.n v_9.c)] T.sl_uint8 (fun (v_13 : Sl) (h : Heap) =>
  opK Tryz.prog .slice (Builtin.append_ #[T.sl_sl_uint8, T.sl_sl_uint8] T.sl_sl_uint8 #[(.slice s_1.1.a s_1.1.n s_1.1.c), (.slice v_13.a v_13.n v_13.c)]) (fun (v_14 : Sl) (h : Heap) =>
  X_2 (v_14, IntKind.i64.wrap ((IntKind.i64.wrap (s_1.2 + 36)) + s_3.1)) h) h)) h) h)) h))) (0, 0) h
  else
  R (.tuple #[(.slice s_1.1.a s_1.1.n s_1.1.c), (.int .i64 s_1.2)]) h) (⟨none, 0, 0⟩, 0) h
def ref26_Records.ann : Ann := (.seq .leaf (.seq .leaf (.seq .leaf (.seq (.block (.loop [(6, .slice), (7, (.int .i64))] (.seq (.seq .leaf (.cond .leaf .leaf)) (.block (.seq .leaf (.seq (.seq .leaf (.block (.loop [(8, (.int .i64)), (9, (.int .i64))] (.seq (.seq .leaf (.cond .leaf .leaf)) (.seq (.block .leaf) .leaf))))) (.seq (.seq .leaf (.cond .leaf .leaf)) (.seq .leaf (.seq (.seq (.any (.loc 0 (.loc 1 (.loc 2 (.loc 3 (.loc 4 (.loc 5 (.loc 6 (.last 7 (.last 8 (.loc 9 .done))))))))))) (.cond .leaf .leaf)) (.seq .leaf .leaf)))))))))) (.seq .leaf .leaf)))))
theorem ref26_Records.eq (m0 : Option Addr) (b1 : Sl) (R : Value → Heap → Prop) (h : Heap) : ref26_Records.body m0 b1 R h = evFn Tryz.prog Tryz.f40 ref26_Records.ann [(.pointer m0), (.slice b1.a b1.n b1.c)] R h := by kernel_rfl
theorem ref26_Records.calls {m0 : Option Addr} {b1 : Sl} {R : Value → Heap → Prop} {h : Heap} (H : ref26_Records.body m0 b1 R h) : HC Tryz.prog F.ref26_Records #[(.pointer m0), (.slice b1.a b1.n b1.c)] R h :=
  evFn_sound mixed Tryz.func40 (by kernel_rfl) (ref26_Records.eq m0 b1 R h ▸ H)

/-! (*zugzwang/zugzwangref25.Disk).Bytes -/
def ref25_Disk_Bytes.body (d0 : Option Addr) (R : Value → Heap → Prop) (h : Heap) : Prop :=
  derefK d0 (fun (a_1 : Addr) =>
  fldK ((some a_1)) 0 (fun (a_2 : Addr) =>
  derefK d0 (fun (a_3 : Addr) =>
  fldK ((some a_3)) 1 (fun (a_4 : Addr) =>
  loadK .slice h ((some a_2)) (fun (v_5 : Sl) =>
  loadK .slice h ((some a_4)) (fun (v_6 : Sl) =>
  newSlK h 0 #[] T.uint8 (fun (v_7 : Sl) (h : Heap) =>
  opK Tryz.prog .slice (Builtin.append_ #[T.sl_uint8, T.sl_uint8] T.sl_uint8 #[(.slice v_7.a v_7.n v_7.c), (.slice v_5.a v_5.n v_5.c)]) (fun (v_8 : Sl) (h : Heap) =>
  stillK .slice h ((some a_4)) v_6 ∧
  opK Tryz.prog .slice (Builtin.append_ #[T.sl_uint8, T.sl_uint8] T.sl_uint8 #[(.slice v_8.a v_8.n v_8.c), (.slice v_6.a v_6.n v_6.c)]) (fun (v_9 : Sl) (h : Heap) =>
  R (.slice v_9.a v_9.n v_9.c) h) h) h)))))))
def ref25_Disk_Bytes.ann : Ann := (.seq .leaf (.seq (.any (.loc 1 (.loc 2 (.loc 3 (.loc 6 (.loc 7 (.loc 8 (.st 4 3104 (.st 9 3072 (.last 0 (.last 5 (.last 10 (.loc 11 .done))))))))))))) .leaf))
theorem ref25_Disk_Bytes.eq (d0 : Option Addr) (R : Value → Heap → Prop) (h : Heap) : ref25_Disk_Bytes.body d0 R h = evFn Tryz.prog Tryz.f41 ref25_Disk_Bytes.ann [(.pointer d0)] R h := by kernel_rfl
theorem ref25_Disk_Bytes.calls {d0 : Option Addr} {R : Value → Heap → Prop} {h : Heap} (H : ref25_Disk_Bytes.body d0 R h) : HC Tryz.prog F.ref25_Disk_Bytes #[(.pointer d0)] R h :=
  evFn_sound mixed Tryz.func41 (by kernel_rfl) (ref25_Disk_Bytes.eq d0 R h ▸ H)

/-! (*zugzwang/zugzwangref25.Disk).Cut -/
def ref25_Disk_Cut.body (d0 : Option Addr) (n1 : Int) (R : Value → Heap → Prop) (h : Heap) : Prop :=
  if (decide (n1 < 0)) = true then
  R (.int .i64 6) h
  else
  derefK d0 (fun (a_1 : Addr) =>
  fldK ((some a_1)) 0 (fun (a_2 : Addr) =>
  loadK .slice h ((some a_2)) (fun (v_3 : Sl) =>
  derefK d0 (fun (a_4 : Addr) =>
  fldK ((some a_4)) 1 (fun (a_5 : Addr) =>
  loadK .slice h ((some a_5)) (fun (v_6 : Sl) =>
  if (decide (n1 > (IntKind.i64.wrap (((v_3.n : Int)) + ((v_6.n : Int)))))) = true then
  R (.int .i64 6) h
  else
  callK Tryz.prog .slice F.ref25_Disk_Bytes #[(.pointer d0)] (fun (v_7 : Sl) (h : Heap) =>
  sliceK v_7 none (some n1) none (sizeOfT Tryz.prog T.uint8) (fun (v_8 : Sl) =>
  derefK d0 (fun (a_9 : Addr) =>
  fldK ((some a_9)) 0 (fun (a_10 : Addr) =>
  storeK h ((some a_10)) (.slice v_8.a v_8.n v_8.c) (fun (h : Heap) =>
  derefK d0 (fun (a_11 : Addr) =>
  fldK ((some a_11)) 1 (fun (a_12 : Addr) =>
  storeK h ((some a_12)) (.slice none 0 0) (fun (h : Heap) =>
  R (.int .i64 0) h)))))))) h))))))
def ref25_Disk_Cut.ann : Ann := (.seq .leaf (.seq (.seq .leaf (.cond (.seq .leaf .leaf) .leaf)) (.seq .leaf (.seq .leaf (.seq .leaf .leaf)))))
theorem ref25_Disk_Cut.eq (d0 : Option Addr) (n1 : Int) (R : Value → Heap → Prop) (h : Heap) : ref25_Disk_Cut.body d0 n1 R h = evFn Tryz.prog Tryz.f42 ref25_Disk_Cut.ann [(.pointer d0), (.int .i64 n1)] R h := by kernel_rfl
theorem ref25_Disk_Cut.calls {d0 : Option Addr} {n1 : Int} {R : Value → Heap → Prop} {h : Heap} (H : ref25_Disk_Cut.body d0 n1 R h) : HC Tryz.prog F.ref25_Disk_Cut #[(.pointer d0), (.int .i64 n1)] R h :=
  evFn_sound mixed Tryz.func42 (by kernel_rfl) (ref25_Disk_Cut.eq d0 n1 R h ▸ H)

/-! zugzwang/zugzwangref26.Open -/
def ref26_Open.body (m0 : Option Addr) (d1 : Option Addr) (R : Value → Heap → Prop) (h : Heap) : Prop :=
  callK Tryz.prog .slice F.ref25_Disk_Bytes #[(.pointer d1)] (fun (v_1 : Sl) (h : Heap) =>
  callK Tryz.prog (Kd.pair .slice (.int .i64)) F.ref26_Records #[(.pointer m0), (.slice v_1.a v_1.n v_1.c)] (fun (v_2 : Sl × Int) (h : Heap) =>
  callK Tryz.prog (.int .i64) F.ref25_Disk_Cut #[(.pointer d1), (.int .i64 v_2.2)] (fun (v_3 : Int) (h : Heap) =>
  buildK Tryz.prog (Instr.build T.zugzwangref26_Journal #[(0, (.pointer m0)), (1, (.pointer d1)), (2, (.slice v_2.1.a v_2.1.n v_2.1.c))]) (fun (v_4 : Array Value) =>
  newK h v_4 T.zugzwangref26_Journal (fun (v_5 : Option Addr) (h : Heap) =>
  R (.pointer v_5) h))) h) h) h
def ref26_Open.ann : Ann := (.seq .leaf (.seq .leaf (.seq .leaf (.seq .leaf .leaf))))
theorem ref26_Open.eq (m0 : Option Addr) (d1 : Option Addr) (R : Value → Heap → Prop) (h : Heap) : ref26_Open.body m0 d1 R h = evFn Tryz.prog Tryz.f10 ref26_Open.ann [(.pointer m0), (.pointer d1)] R h := by kernel_rfl
theorem ref26_Open.calls {m0 : Option Addr} {d1 : Option Addr} {R : Value → Heap → Prop} {h : Heap} (H : ref26_Open.body m0 d1 R h) : HC Tryz.prog F.ref26_Open #[(.pointer m0), (.pointer d1)] R h :=
  evFn_sound mixed Tryz.func10 (by kernel_rfl) (ref26_Open.eq m0 d1 R h ▸ H)

/-! (*zugzwang/journal.Journal).At -/
def journal_Journal_At.body (j0 : Option Addr) (n1 : Int) (R : Value → Heap → Prop) (h : Heap) : Prop :=
  if (decide (n1 < 0)) = true then
  R (.tuple #[(.slice none 0 0), (.bool false)]) h
  else
  callK Tryz.prog (.int .i64) F.journal_Journal_Len #[(.pointer j0)] (fun (v_1 : Int) (h : Heap) =>
  if (decide (n1 ≥ v_1)) = true then
  R (.tuple #[(.slice none 0 0), (.bool false)]) h
  else
  derefK j0 (fun (a_2 : Addr) =>
  fldK ((some a_2)) 2 (fun (a_3 : Addr) =>
  loadK .slice h ((some a_3)) (fun (v_4 : Sl) =>
  idxK v_4 n1 (sizeOfT Tryz.prog T.sl_uint8) (fun (a_5 : Addr) =>
  loadK .slice h ((some a_5)) (fun (v_6 : Sl) =>
  callK Tryz.prog .slice F.slices_Clone_byte_byte #[(.slice v_6.a v_6.n v_6.c)] (fun (v_7 : Sl) (h : Heap) =>
  R (.tuple #[(.slice v_7.a v_7.n v_7.c), (.bool true)]) h) h)))))) h
def journal_Journal_At.ann : Ann := (.seq .leaf (.seq (.seq .leaf (.cond (.seq .leaf .leaf) .leaf)) (.seq .leaf .leaf)))
theorem journal_Journal_At.eq (j0 : Option Addr) (n1 : Int) (R : Value → Heap → Prop) (h : Heap) : journal_Journal_At.body j0 n1 R h = evFn Tryz.prog Tryz.f17 journal_Journal_At.ann [(.pointer j0), (.int .i64 n1)] R h := by kernel_rfl
theorem journal_Journal_At.calls {j0 : Option Addr} {n1 : Int} {R : Value → Heap → Prop} {h : Heap} (H : journal_Journal_At.body j0 n1 R h) : HC Tryz.prog F.journal_Journal_At #[(.pointer j0), (.int .i64 n1)] R h :=
  evFn_sound mixed Tryz.func17 (by kernel_rfl) (journal_Journal_At.eq j0 n1 R h ▸ H)

/-! (*zugzwang/disk.Disk).Synced -/
def disk_Disk_Synced.body (d0 : Option Addr) (R : Value → Heap → Prop) (h : Heap) : Prop :=
  callK Tryz.prog .bool F.disk_Disk_there #[(.pointer d0)] (fun (v_1 : Bool) (h : Heap) =>
  if (!v_1) = true then
  R (.int .i64 0) h
  else
  derefK d0 (fun (a_2 : Addr) =>
  fldK ((some a_2)) 0 (fun (a_3 : Addr) =>
  fldK ((some a_3)) 1 (fun (a_4 : Addr) =>
  loadK (.int .i64) h ((some a_4)) (fun (v_5 : Int) =>
  R (.int .i64 v_5) h))))) h
def disk_Disk_Synced.ann : Ann := (.seq .leaf (.seq (.seq .leaf (.cond (.seq .leaf .leaf) .leaf)) (.seq .leaf .leaf)))
theorem disk_Disk_Synced.eq (d0 : Option Addr) (R : Value → Heap → Prop) (h : Heap) : disk_Disk_Synced.body d0 R h = evFn Tryz.prog Tryz.f44 disk_Disk_Synced.ann [(.pointer d0)] R h := by kernel_rfl
theorem disk_Disk_Synced.calls {d0 : Option Addr} {R : Value → Heap → Prop} {h : Heap} (H : disk_Disk_Synced.body d0 R h) : HC Tryz.prog F.disk_Disk_Synced #[(.pointer d0)] R h :=
  evFn_sound mixed Tryz.func44 (by kernel_rfl) (disk_Disk_Synced.eq d0 R h ▸ H)

/-! zugzwang/zugzwanglaw26.same -/
def law26_same.body (j0 : Option Addr) (d1 : Option Addr) (r2 : Option Addr) (n3 : Int) (R : Value → Heap → Prop) (h : Heap) : Prop :=
  callK Tryz.prog (Kd.pair .slice .bool) F.journal_Journal_At #[(.pointer j0), (.int .i64 n3)] (fun (v_1 : Sl × Bool) (h : Heap) =>
  joinW (fun (s_2 : Bool) (h : Heap) =>
  joinW (fun (s_3 : Bool) (h : Heap) =>
  if s_3 = true then
  derefK r2 (fun (a_4 : Addr) =>
  fldK ((some a_4)) 2 (fun (a_5 : Addr) =>
  loadK .slice h ((some a_5)) (fun (v_6 : Sl) =>
  callK Tryz.prog (.int .i64) F.journal_Journal_Len #[(.pointer j0)] (fun (v_7 : Int) (h : Heap) =>
  stillK .slice h ((some a_5)) v_6 ∧
  if (v_7 == ((v_6.n : Int))) = true then
  derefK r2 (fun (a_8 : Addr) =>
  fldK ((some a_8)) 2 (fun (a_9 : Addr) =>
  loadK .slice h ((some a_9)) (fun (v_10 : Sl) =>
  callK Tryz.prog .slice F.journal_Journal_Records #[(.pointer j0)] (fun (v_11 : Sl) (h : Heap) =>
  stillK .slice h ((some a_9)) v_10 ∧
  callK Tryz.prog .bool F.kit_SameByteRows #[(.slice v_11.a v_11.n v_11.c), (.slice v_10.a v_10.n v_10.c)] (fun (v_12 : Bool) (h : Heap) =>
  if v_12 = true then
  derefK r2 (fun (a_13 : Addr) =>
  fldK ((some a_13)) 1 (fun (a_14 : Addr) =>
  loadK .ptr h ((some a_14)) (fun (v_15 : Option Addr) =>
  callK Tryz.prog .slice F.disk_Disk_Bytes #[(.pointer d1)] (fun (v_16 : Sl) (h : Heap) =>
  stillK .ptr h ((some a_14)) v_15 ∧
  callK Tryz.prog .slice F.ref25_Disk_Bytes #[(.pointer v_15)] (fun (v_17 : Sl) (h : Heap) =>
  callK Tryz.prog .bool F.kit_SameBytes #[(.slice v_16.a v_16.n v_16.c), (.slice v_17.a v_17.n v_17.c)] (fun (v_18 : Bool) (h : Heap) =>
  if v_18 = true then
  derefK r2 (fun (a_19 : Addr) =>
  fldK ((some a_19)) 1 (fun (a_20 : Addr) =>
  loadK .ptr h ((some a_20)) (fun (v_21 : Option Addr) =>
  derefK v_21 (fun (a_22 : Addr) =>
  fldK ((some a_22)) 0 (fun (a_23 : Addr) =>
  loadK .slice h ((some a_23)) (fun (v_24 : Sl) =>
  callK Tryz.prog (.int .i64) F.disk_Disk_Synced #[(.pointer d1)] (fun (v_25 : Int) (h : Heap) =>
  stillK .slice h ((some a_23)) v_24 ∧
  stillK .ptr h ((some a_20)) v_21 ∧
  R (.bool (v_25 == ((v_24.n : Int)))) h) h))))))
  else
  R (.bool false) h) h) h) h)))
  else
  R (.bool false) h) h) h)))
  else
  R (.bool false) h) h)))
  else
  R (.bool false) h)
  (fun J_26 =>
  if (v_1.2 == s_2) = true then
  if (!s_2) = true then
  if s_2 = true then
  J_26 true h
  else
  J_26 (((v_1.1.n : Int)) == 0) h
  else
  derefK r2 (fun (a_27 : Addr) =>
  fldK ((some a_27)) 2 (fun (a_28 : Addr) =>
  loadK .slice h ((some a_28)) (fun (v_29 : Sl) =>
  idxK v_29 n3 (sizeOfT Tryz.prog T.sl_uint8) (fun (a_30 : Addr) =>
  loadK .slice h ((some a_30)) (fun (v_31 : Sl) =>
  callK Tryz.prog .bool F.kit_SameBytes #[(.slice v_1.1.a v_1.1.n v_1.1.c), (.slice v_31.a v_31.n v_31.c)] (fun (v_32 : Bool) (h : Heap) =>
  if v_32 = true then
  if s_2 = true then
  J_26 true h
  else
  J_26 (((v_1.1.n : Int)) == 0) h
  else
  J_26 false h) h)))))
  else
  J_26 false h))
  (fun J_33 =>
  if (decide (n3 ≥ 0)) = true then
  derefK r2 (fun (a_34 : Addr) =>
  fldK ((some a_34)) 2 (fun (a_35 : Addr) =>
  loadK .slice h ((some a_35)) (fun (v_36 : Sl) =>
  J_33 (decide (n3 < ((v_36.n : Int)))) h)))
  else
  J_33 false h)) h
def law26_same.ann : Ann := (.seq .leaf (.seq .leaf (.join [(11, .bool)] .leaf (.join [(12, .bool)] .leaf (.seq (.any (.loc 0 (.loc 1 (.locA 2 (.loc 4 (.loc 5 (.loc 6 (.st 7 17592186044160 (.loc 8 (.last 3 (.loc 9 (.loc 10 (.loc 11 (.locA 12 (.loc 14 (.loc 15 (.loc 16 (.st 17 17592185782272 (.last 13 (.last 18 (.loc 19 (.loc 20 (.locA 21 (.loc 23 (.loc 24 (.loc 25 (.st 26 17592051826688 (.last 22 (.last 27 (.last 28 (.loc 29 (.loc 30 (.locA 31 (.loc 33 (.loc 34 (.loc 35 (.st 36 17454747090944 (.loc 37 (.loc 38 (.st 39 16492674416640 (.loc 40 (.last 32 (.loc 41 (.loc 42 (.loc 43 .done)))))))))))) (.loc 32 (.loc 33 (.loc 34 (.loc 35 (.loc 36 (.loc 37 (.loc 38 (.loc 39 (.loc 40 (.loc 41 (.loc 42 (.loc 43 .done)))))))))))))))))))))) (.loc 22 (.loc 23 (.loc 24 (.loc 25 (.loc 26 (.loc 27 (.loc 28 (.loc 29 (.loc 30 (.loc 31 (.loc 32 (.loc 33 (.loc 34 (.loc 35 (.loc 36 (.loc 37 (.loc 38 (.loc 39 (.loc 40 (.loc 41 (.loc 42 (.loc 43 .done))))))))))))))))))))))))))))))) (.loc 13 (.loc 14 (.loc 15 (.loc 16 (.loc 17 (.loc 18 (.loc 19 (.loc 20 (.loc 21 (.loc 22 (.loc 23 (.loc 24 (.loc 25 (.loc 26 (.loc 27 (.loc 28 (.loc 29 (.loc 30 (.loc 31 (.loc 32 (.loc 33 (.loc 34 (.loc 35 (.loc 36 (.loc 37 (.loc 38 (.loc 39 (.loc 40 (.loc 41 (.loc 42 (.loc 43 .done))))))))))))))))))))))))))))))))))))))))) (.loc 3 (.loc 4 (.loc 5 (.loc 6 (.loc 7 (.loc 8 (.loc 9 (.loc 10 (.loc 11 (.loc 12 (.loc 13 (.loc 14 (.loc 15 (.loc 16 (.loc 17 (.loc 18 (.loc 19 (.loc 20 (.loc 21 (.loc 22 (.loc 23 (.loc 24 (.loc 25 (.loc 26 (.loc 27 (.loc 28 (.loc 29 (.loc 30 (.loc 31 (.loc 32 (.loc 33 (.loc 34 (.loc 35 (.loc 36 (.loc 37 (.loc 38 (.loc 39 (.loc 40 (.loc 41 (.loc 42 (.loc 43 .done))))))))))))))))))))))))))))))))))))))))))))) .leaf)))))
theorem law26_same.eq (j0 : Option Addr) (d1 : Option Addr) (r2 : Option Addr) (n3 : Int) (R : Value → Heap → Prop) (h : Heap) : law26_same.body j0 d1 r2 n3 R h = evFn Tryz.prog Tryz.f11 law26_same.ann [(.pointer j0), (.pointer d1), (.pointer r2), (.int .i64 n3)] R h := by kernel_rfl
theorem law26_same.calls {j0 : Option Addr} {d1 : Option Addr} {r2 : Option Addr} {n3 : Int} {R : Value → Heap → Prop} {h : Heap} (H : law26_same.body j0 d1 r2 n3 R h) : HC Tryz.prog F.law26_same #[(.pointer j0), (.pointer d1), (.pointer r2), (.int .i64 n3)] R h :=
  evFn_sound mixed Tryz.func11 (by kernel_rfl) (law26_same.eq j0 d1 r2 n3 R h ▸ H)

/-! zugzwang/zugzwangkit.mark -/
def kit_mark.body (k0 : Int) (i1 : Int) (R : Value → Heap → Prop) (h : Heap) : Prop :=
  R (.int .i64 (IntKind.i64.wrap ((IntKind.i64.wrap (1000003 * (IntKind.i64.wrap (k0 + 7)))) + i1))) h
def kit_mark.ann : Ann := (.seq .leaf (.seq .leaf .leaf))
theorem kit_mark.eq (k0 : Int) (i1 : Int) (R : Value → Heap → Prop) (h : Heap) : kit_mark.body k0 i1 R h = evFn Tryz.prog Tryz.f72 kit_mark.ann [(.int .i64 k0), (.int .i64 i1)] R h := by kernel_rfl
theorem kit_mark.calls {k0 : Int} {i1 : Int} {R : Value → Heap → Prop} {h : Heap} (H : kit_mark.body k0 i1 R h) : HC Tryz.prog F.kit_mark #[(.int .i64 k0), (.int .i64 i1)] R h :=
  evFn_sound mixed Tryz.func72 (by kernel_rfl) (kit_mark.eq k0 i1 R h ▸ H)

/-! zugzwang/zugzwangkit.markByte -/
def kit_markByte.body (k0 : Int) (i1 : Int) (R : Value → Heap → Prop) (h : Heap) : Prop :=
  callK Tryz.prog (.int .i64) F.kit_mark #[(.int .i64 k0), (.int .i64 i1)] (fun (v_1 : Int) (h : Heap) =>
  shiftK 56
  (R (.int .u8 (IntKind.u8.wrap (Int.fdiv (IntKind.u64.wrap ((IntKind.u64.wrap v_1) * 11400714819323198485)) (2 ^ min (Int.toNat 56) (IntKind.bits .u64))))) h)) h
def kit_markByte.ann : Ann := (.seq .leaf (.seq .leaf .leaf))
theorem kit_markByte.eq (k0 : Int) (i1 : Int) (R : Value → Heap → Prop) (h : Heap) : kit_markByte.body k0 i1 R h = evFn Tryz.prog Tryz.f51 kit_markByte.ann [(.int .i64 k0), (.int .i64 i1)] R h := by kernel_rfl
theorem kit_markByte.calls {k0 : Int} {i1 : Int} {R : Value → Heap → Prop} {h : Heap} (H : kit_markByte.body k0 i1 R h) : HC Tryz.prog F.kit_markByte #[(.int .i64 k0), (.int .i64 i1)] R h :=
  evFn_sound mixed Tryz.func51 (by kernel_rfl) (kit_markByte.eq k0 i1 R h ▸ H)

/-! zugzwang/zugzwangkit.LentBytes -/
def kit_LentBytes.body (l0 : Sl) (R : Value → Heap → Prop) (h : Heap) : Prop :=
  opK Tryz.prog .slice (Instr.makeSlice T.sl_uint8 (.int .i64 0) (.int .i64 (IntKind.i64.wrap (((l0.n : Int)) + 12)))) (fun (v_1 : Sl) (h : Heap) =>
  opK Tryz.prog .slice (Builtin.append_ #[T.sl_uint8, T.sl_uint8] T.sl_uint8 #[(.slice v_1.a v_1.n v_1.c), (.slice l0.a l0.n l0.c)]) (fun (v_2 : Sl) (h : Heap) =>
  loopW (fun X_4 (s_3 : Sl × Int) (h : Heap) =>
  if (decide (s_3.2 < 12)) = true then
  callK Tryz.prog (.int .u8) F.kit_markByte #[(.int .i64 1), (.int .i64 s_3.2)] (fun (v_5 : Int) (h : Heap) =>
  newSlK h 1 #[(.int .u8 v_5)] T.uint8 (fun (v_6 : Sl) (h : Heap) =>
  opK Tryz.prog .slice (Builtin.append_ #[T.sl_uint8, T.sl_uint8] T.sl_uint8 #[(.slice s_3.1.a s_3.1.n s_3.1.c), (.slice v_6.a v_6.n v_6.c)]) (fun (v_7 : Sl) (h : Heap) =>
  X_4 (v_7, IntKind.i64.wrap (s_3.2 + 1)) h) h)) h
  else
  sliceK s_3.1 none (some ((l0.n : Int))) none (sizeOfT Tryz.prog T.uint8) (fun (v_8 : Sl) =>
  R (.slice v_8.a v_8.n v_8.c) h)) (v_2, 0) h) h) h
def kit_LentBytes.ann : Ann := (.seq .leaf (.seq .leaf (.seq .leaf (.seq (.seq .leaf (.block (.loop [(3, .slice), (4, (.int .i64))] (.seq (.seq .leaf (.cond .leaf .leaf)) (.seq (.block .leaf) .leaf))))) (.seq .leaf .leaf)))))
theorem kit_LentBytes.eq (l0 : Sl) (R : Value → Heap → Prop) (h : Heap) : kit_LentBytes.body l0 R h = evFn Tryz.prog Tryz.f45 kit_LentBytes.ann [(.slice l0.a l0.n l0.c)] R h := by kernel_rfl
theorem kit_LentBytes.calls {l0 : Sl} {R : Value → Heap → Prop} {h : Heap} (H : kit_LentBytes.body l0 R h) : HC Tryz.prog F.kit_LentBytes #[(.slice l0.a l0.n l0.c)] R h :=
  evFn_sound mixed Tryz.func45 (by kernel_rfl) (kit_LentBytes.eq l0 R h ▸ H)

/-! zugzwang/zugzwangkit.LentByteRows -/
def kit_LentByteRows.body (l0 : Sl) (R : Value → Heap → Prop) (h : Heap) : Prop :=
  loopW (fun X_2 (s_1 : Sl × Int) (h : Heap) =>
  if (decide (s_1.2 < ((l0.n : Int)))) = true then
  idxK l0 s_1.2 (sizeOfT Tryz.prog T.sl_uint8) (fun (a_3 : Addr) =>
  loadK .slice h ((some a_3)) (fun (v_4 : Sl) =>
  callK Tryz.prog .slice F.kit_LentBytes #[(.slice v_4.a v_4.n v_4.c)] (fun (v_5 : Sl) (h : Heap) =>
  newSlK h 1 #[(.slice v_5.a v_5.n v_5.c)] T.sl_uint8 (fun (v_6 : Sl) (h : Heap) =>
  opK Tryz.prog .slice (Builtin.append_ #[T.sl_sl_uint8, T.sl_sl_uint8] T.sl_sl_uint8 #[(.slice s_1.1.a s_1.1.n s_1.1.c), (.slice v_6.a v_6.n v_6.c)]) (fun (v_7 : Sl) (h : Heap) =>
  X_2 (v_7, IntKind.i64.wrap (s_1.2 + 1)) h) h)) h))
  else
  R (.slice s_1.1.a s_1.1.n s_1.1.c) h) (⟨none, 0, 0⟩, 0) h
def kit_LentByteRows.ann : Ann := (.seq .leaf (.seq .leaf (.seq (.seq .leaf (.block (.loop [(3, .slice), (4, (.int .i64))] (.seq (.seq .leaf (.cond .leaf .leaf)) (.seq (.block .leaf) .leaf))))) (.seq .leaf .leaf))))
theorem kit_LentByteRows.eq (l0 : Sl) (R : Value → Heap → Prop) (h : Heap) : kit_LentByteRows.body l0 R h = evFn Tryz.prog Tryz.f12 kit_LentByteRows.ann [(.slice l0.a l0.n l0.c)] R h := by kernel_rfl
theorem kit_LentByteRows.calls {l0 : Sl} {R : Value → Heap → Prop} {h : Heap} (H : kit_LentByteRows.body l0 R h) : HC Tryz.prog F.kit_LentByteRows #[(.slice l0.a l0.n l0.c)] R h :=
  evFn_sound mixed Tryz.func12 (by kernel_rfl) (kit_LentByteRows.eq l0 R h ▸ H)

/-! zugzwang/zugzwangkit.Pick -/
def kit_Pick.body (x0 : Int) (n1 : Int) (R : Value → Heap → Prop) (h : Heap) : Prop :=
  if (decide (n1 < 1)) = true then
  R (.int .i64 0) h
  else
  divK n1
  (if (decide ((Int.tmod x0 n1) < 0)) = true then
  R (.int .i64 (IntKind.i64.wrap ((Int.tmod x0 n1) + n1))) h
  else
  R (.int .i64 (Int.tmod x0 n1)) h)
def kit_Pick.ann : Ann := (.seq .leaf (.seq (.seq .leaf (.cond (.seq .leaf .leaf) .leaf)) (.seq .leaf (.seq (.seq .leaf (.cond .leaf .leaf)) (.seq .leaf .leaf)))))
theorem kit_Pick.eq (x0 : Int) (n1 : Int) (R : Value → Heap → Prop) (h : Heap) : kit_Pick.body x0 n1 R h = evFn Tryz.prog Tryz.f13 kit_Pick.ann [(.int .i64 x0), (.int .i64 n1)] R h := by kernel_rfl
theorem kit_Pick.calls {x0 : Int} {n1 : Int} {R : Value → Heap → Prop} {h : Heap} (H : kit_Pick.body x0 n1 R h) : HC Tryz.prog F.kit_Pick #[(.int .i64 x0), (.int .i64 n1)] R h :=
  evFn_sound mixed Tryz.func13 (by kernel_rfl) (kit_Pick.eq x0 n1 R h ▸ H)

/-! zugzwang/zugzwangref25.Join -/
def ref25_Join.body (rows0 : Sl) (R : Value → Heap → Prop) (h : Heap) : Prop :=
  loopW (fun X_2 (s_1 : Sl × Int) (h : Heap) =>
  if (decide (s_1.2 < ((rows0.n : Int)))) = true then
  idxK rows0 s_1.2 (sizeOfT Tryz.prog T.sl_uint8) (fun (a_3 : Addr) =>
  loadK .slice h ((some a_3)) (fun (v_4 : Sl) =>
  opK Tryz.prog .slice (Builtin.append_ #[T.sl_uint8, T.sl_uint8] T.sl_uint8 #[(.slice s_1.1.a s_1.1.n s_1.1.c), (.slice v_4.a v_4.n v_4.c)]) (fun (v_5 : Sl) (h : Heap) =>
  X_2 (v_5, IntKind.i64.wrap (s_1.2 + 1)) h) h))
  else
  R (.slice s_1.1.a s_1.1.n s_1.1.c) h) (⟨none, 0, 0⟩, 0) h
def ref25_Join.ann : Ann := (.seq .leaf (.seq .leaf (.seq (.seq .leaf (.block (.loop [(3, .slice), (4, (.int .i64))] (.seq (.seq .leaf (.cond .leaf .leaf)) (.seq (.block .leaf) .leaf))))) (.seq .leaf .leaf))))
theorem ref25_Join.eq (rows0 : Sl) (R : Value → Heap → Prop) (h : Heap) : ref25_Join.body rows0 R h = evFn Tryz.prog Tryz.f71 ref25_Join.ann [(.slice rows0.a rows0.n rows0.c)] R h := by kernel_rfl
theorem ref25_Join.calls {rows0 : Sl} {R : Value → Heap → Prop} {h : Heap} (H : ref25_Join.body rows0 R h) : HC Tryz.prog F.ref25_Join #[(.slice rows0.a rows0.n rows0.c)] R h :=
  evFn_sound mixed Tryz.func71 (by kernel_rfl) (ref25_Join.eq rows0 R h ▸ H)

/-! (*zugzwang/zugzwangref25.Disk).Write -/
def ref25_Disk_Write.body (d0 : Option Addr) (rows1 : Sl) (R : Value → Heap → Prop) (h : Heap) : Prop :=
  callK Tryz.prog .slice F.ref25_Join #[(.slice rows1.a rows1.n rows1.c)] (fun (v_1 : Sl) (h : Heap) =>
  derefK d0 (fun (a_2 : Addr) =>
  fldK ((some a_2)) 0 (fun (a_3 : Addr) =>
  loadK .slice h ((some a_3)) (fun (v_4 : Sl) =>
  derefK d0 (fun (a_5 : Addr) =>
  fldK ((some a_5)) 1 (fun (a_6 : Addr) =>
  loadK .slice h ((some a_6)) (fun (v_7 : Sl) =>
  if (decide ((IntKind.i64.wrap ((IntKind.i64.wrap (((v_4.n : Int)) + ((v_7.n : Int)))) + ((v_1.n : Int)))) > 1048576)) = true then
  R (.int .i64 3) h
  else
  newSlK h 0 #[] T.uint8 (fun (v_8 : Sl) (h : Heap) =>
  derefK d0 (fun (a_9 : Addr) =>
  fldK ((some a_9)) 1 (fun (a_10 : Addr) =>
  loadK .slice h ((some a_10)) (fun (v_11 : Sl) =>
  opK Tryz.prog .slice (Builtin.append_ #[T.sl_uint8, T.sl_uint8] T.sl_uint8 #[(.slice v_8.a v_8.n v_8.c), (.slice v_11.a v_11.n v_11.c)]) (fun (v_12 : Sl) (h : Heap) =>
  opK Tryz.prog .slice (Builtin.append_ #[T.sl_uint8, T.sl_uint8] T.sl_uint8 #[(.slice v_12.a v_12.n v_12.c), (.slice v_1.a v_1.n v_1.c)]) (fun (v_13 : Sl) (h : Heap) =>
  derefK d0 (fun (a_14 : Addr) =>
  fldK ((some a_14)) 1 (fun (a_15 : Addr) =>
  storeK h ((some a_15)) (.slice v_13.a v_13.n v_13.c) (fun (h : Heap) =>
  R (.int .i64 0) h)))) h) h))))))))))) h
def ref25_Disk_Write.ann : Ann := (.seq .leaf (.seq .leaf (.seq (.seq .leaf (.cond (.seq .leaf .leaf) .leaf)) (.seq .leaf (.seq .leaf .leaf)))))
theorem ref25_Disk_Write.eq (d0 : Option Addr) (rows1 : Sl) (R : Value → Heap → Prop) (h : Heap) : ref25_Disk_Write.body d0 rows1 R h = evFn Tryz.prog Tryz.f50 ref25_Disk_Write.ann [(.pointer d0), (.slice rows1.a rows1.n rows1.c)] R h := by kernel_rfl
theorem ref25_Disk_Write.calls {d0 : Option Addr} {rows1 : Sl} {R : Value → Heap → Prop} {h : Heap} (H : ref25_Disk_Write.body d0 rows1 R h) : HC Tryz.prog F.ref25_Disk_Write #[(.pointer d0), (.slice rows1.a rows1.n rows1.c)] R h :=
  evFn_sound mixed Tryz.func50 (by kernel_rfl) (ref25_Disk_Write.eq d0 rows1 R h ▸ H)

/-! (*zugzwang/zugzwangref26.Journal).Put -/
def ref26_Journal_Put.body (j0 : Option Addr) (l1 : Sl) (R : Value → Heap → Prop) (h : Heap) : Prop :=
  loopW (fun X_2 (s_1 : Int) (h : Heap) =>
  if (decide (s_1 < ((l1.n : Int)))) = true then
  idxK l1 s_1 (sizeOfT Tryz.prog T.sl_uint8) (fun (a_3 : Addr) =>
  loadK .slice h ((some a_3)) (fun (v_4 : Sl) =>
  if (decide (((v_4.n : Int)) > 4096)) = true then
  R (.int .i64 2) h
  else
  X_2 (IntKind.i64.wrap (s_1 + 1)) h))
  else
  loopW (fun X_6 (s_5 : Sl × Int) (h : Heap) =>
  if (decide (s_5.2 < ((l1.n : Int)))) = true then
  derefK j0 (fun (a_7 : Addr) =>
  fldK ((some a_7)) 0 (fun (a_8 : Addr) =>
  derefK j0 (fun (a_9 : Addr) =>
  fldK ((some a_9)) 2 (fun (a_10 : Addr) =>
  idxK l1 s_5.2 (sizeOfT Tryz.prog T.sl_uint8) (fun (a_11 : Addr) =>
  loadK .ptr h ((some a_8)) (fun (v_12 : Option Addr) =>
  loadK .slice h ((some a_10)) (fun (v_13 : Sl) =>
  loadK .slice h ((some a_11)) (fun (v_14 : Sl) =>
  callK Tryz.prog .slice F.ref26_Frame #[(.pointer v_12), (.int .i64 (IntKind.i64.wrap (((v_13.n : Int)) + s_5.2))), (.slice v_14.a v_14.n v_14.c)] (fun (v_15 : Sl) (h : Heap) =>
  newSlK h 1 #[(.slice v_15.a v_15.n v_15.c)] T.sl_uint8 (fun (v_16 : Sl) (h : Heap) =>
  opK Tryz.prog .slice (Builtin.append_ #[T.sl_sl_uint8, T.sl_sl_uint8] T.sl_sl_uint8 #[(.slice s_5.1.a s_5.1.n s_5.1.c), (.slice v_16.a v_16.n v_16.c)]) (fun (v_17 : Sl) (h : Heap) =>
  X_6 (v_17, IntKind.i64.wrap (s_5.2 + 1)) h) h)) h))))))))
  else
  derefK j0 (fun (a_18 : Addr) =>
  fldK ((some a_18)) 1 (fun (a_19 : Addr) =>
  loadK .ptr h ((some a_19)) (fun (v_20 : Option Addr) =>
  callK Tryz.prog (.int .i64) F.ref25_Disk_Write #[(.pointer v_20), (.slice s_5.1.a s_5.1.n s_5.1.c)] (fun (v_21 : Int) (h : Heap) =>
  if (v_21 != 0) = true then
  R (.int .i64 v_21) h
  else
  loopW (fun X_23 (s_22 : Int) (h : Heap) =>
  if (decide (s_22 < ((l1.n : Int)))) = true then
  newSlK h 0 #[] T.uint8 (fun (v_24 : Sl) (h : Heap) =>
  idxK l1 s_22 (sizeOfT Tryz.prog T.sl_uint8) (fun (a_25 : Addr) =>
  loadK .slice h ((some a_25)) (fun (v_26 : Sl) =>
  opK Tryz.prog .slice (Builtin.append_ #[T.sl_uint8, T.sl_uint8] T.sl_uint8 #[(.slice v_24.a v_24.n v_24.c), (.slice v_26.a v_26.n v_26.c)]) (fun (v_27 : Sl) (h : Heap) =>
  derefK j0 (fun (a_28 : Addr) =>
  fldK ((some a_28)) 2 (fun (a_29 : Addr) =>
  loadK .slice h ((some a_29)) (fun (v_30 : Sl) =>
  newSlK h 1 #[(.slice v_27.a v_27.n v_27.c)] T.sl_uint8 (fun (v_31 : Sl) (h : Heap) =>
  opK Tryz.prog .slice (Builtin.append_ #[T.sl_sl_uint8, T.sl_sl_uint8] T.sl_sl_uint8 #[(.slice v_30.a v_30.n v_30.c), (.slice v_31.a v_31.n v_31.c)]) (fun (v_32 : Sl) (h : Heap) =>
  derefK j0 (fun (a_33 : Addr) =>
  fldK ((some a_33)) 2 (fun (a_34 : Addr) =>
  storeK h ((some a_34)) (.slice v_32.a v_32.n v_32.c) (fun (h : Heap) =>
  X_23 (IntKind.i64.wrap (s_22 + 1)) h)))) h))))) h)))
  else
  R (.int .i64 0) h) 0 h) h)))) (⟨none, 0, 0⟩, 0) h) 0 h
def ref26_Journal_Put.ann : Ann := (.seq .leaf (.seq (.seq .leaf (.block (.loop [(5, (.int .i64))] (.seq (.seq .leaf (.cond .leaf .leaf)) (.seq (.block (.seq .leaf (.cond (.seq .leaf .leaf) .leaf))) .leaf))))) (.seq .leaf (.seq (.seq .leaf (.block (.loop [(6, .slice), (7, (.int .i64))] (.seq (.seq .leaf (.cond .leaf .leaf)) (.seq (.block (.seq (.any (.loc 0 (.loc 1 (.loc 2 (.loc 4 (.loc 5 (.loc 6 (.loc 9 (.loc 11 (.loc 12 (.loc 13 (.st 3 98304 (.st 7 99584 (.loc 8 (.loc 10 (.st 14 98304 (.last 15 (.loc 16 .done)))))))))))))))))) .leaf)) .leaf))))) (.seq .leaf (.seq (.seq .leaf (.cond (.seq .leaf .leaf) .leaf)) (.seq (.seq .leaf (.block (.loop [(10, (.int .i64))] (.seq (.seq .leaf (.cond .leaf .leaf)) (.seq (.block (.seq .leaf .leaf)) .leaf))))) (.seq .leaf .leaf))))))))
theorem ref26_Journal_Put.eq (j0 : Option Addr) (l1 : Sl) (R : Value → Heap → Prop) (h : Heap) : ref26_Journal_Put.body j0 l1 R h = evFn Tryz.prog Tryz.f15 ref26_Journal_Put.ann [(.pointer j0), (.slice l1.a l1.n l1.c)] R h := by kernel_rfl
theorem ref26_Journal_Put.calls {j0 : Option Addr} {l1 : Sl} {R : Value → Heap → Prop} {h : Heap} (H : ref26_Journal_Put.body j0 l1 R h) : HC Tryz.prog F.ref26_Journal_Put #[(.pointer j0), (.slice l1.a l1.n l1.c)] R h :=
  evFn_sound mixed Tryz.func15 (by kernel_rfl) (ref26_Journal_Put.eq j0 l1 R h ▸ H)

/-! zugzwang/zugzwangkit.OverBytes -/
def kit_OverBytes.body (out0 : Sl) (R : Value → Heap → Prop) (h : Heap) : Prop :=
  sliceK out0 none (some (if (IntKind.i64.wrap (((out0.n : Int)) + 12)) < ((out0.c : Int)) then (IntKind.i64.wrap (((out0.n : Int)) + 12)) else ((out0.c : Int)))) none (sizeOfT Tryz.prog T.uint8) (fun (v_1 : Sl) =>
  loopW (fun X_3 (s_2 : Int) (h : Heap) =>
  if (decide (s_2 < ((v_1.n : Int)))) = true then
  callK Tryz.prog (.int .u8) F.kit_markByte #[(.int .i64 2), (.int .i64 s_2)] (fun (v_4 : Int) (h : Heap) =>
  idxK v_1 s_2 (sizeOfT Tryz.prog T.uint8) (fun (a_5 : Addr) =>
  storeK h ((some a_5)) (.int .u8 v_4) (fun (h : Heap) =>
  X_3 (IntKind.i64.wrap (s_2 + 1)) h))) h
  else
  R (.tuple #[]) h) 0 h)
def kit_OverBytes.ann : Ann := (.seq .leaf (.seq .leaf (.block (.loop [(3, (.int .i64))] (.seq (.seq .leaf (.cond .leaf .leaf)) (.seq (.block .leaf) .leaf))))))
theorem kit_OverBytes.eq (out0 : Sl) (R : Value → Heap → Prop) (h : Heap) : kit_OverBytes.body out0 R h = evFn Tryz.prog Tryz.f18 kit_OverBytes.ann [(.slice out0.a out0.n out0.c)] R h := by kernel_rfl
theorem kit_OverBytes.calls {out0 : Sl} {R : Value → Heap → Prop} {h : Heap} (H : kit_OverBytes.body out0 R h) : HC Tryz.prog F.kit_OverBytes #[(.slice out0.a out0.n out0.c)] R h :=
  evFn_sound mixed Tryz.func18 (by kernel_rfl) (kit_OverBytes.eq out0 R h ▸ H)

/-! (*zugzwang/zugzwangref25.Disk).Fall -/
def ref25_Disk_Fall.body (d0 : Option Addr) (keep1 : Int) (R : Value → Heap → Prop) (h : Heap) : Prop :=
  derefK d0 (fun (a_1 : Addr) =>
  fldK ((some a_1)) 0 (fun (a_2 : Addr) =>
  derefK d0 (fun (a_3 : Addr) =>
  fldK ((some a_3)) 1 (fun (a_4 : Addr) =>
  derefK d0 (fun (a_5 : Addr) =>
  fldK ((some a_5)) 1 (fun (a_6 : Addr) =>
  loadK .slice h ((some a_2)) (fun (v_7 : Sl) =>
  loadK .slice h ((some a_4)) (fun (v_8 : Sl) =>
  loadK .slice h ((some a_6)) (fun (v_9 : Sl) =>
  sliceK v_8 none (some (if ((v_9.n : Int)) < (if keep1 < 0 then 0 else keep1) then ((v_9.n : Int)) else (if keep1 < 0 then 0 else keep1))) none (sizeOfT Tryz.prog T.uint8) (fun (v_10 : Sl) =>
  newSlK h 0 #[] T.uint8 (fun (v_11 : Sl) (h : Heap) =>
  opK Tryz.prog .slice (Builtin.append_ #[T.sl_uint8, T.sl_uint8] T.sl_uint8 #[(.slice v_11.a v_11.n v_11.c), (.slice v_7.a v_7.n v_7.c)]) (fun (v_12 : Sl) (h : Heap) =>
  stillK .slice h ((some a_6)) v_9 ∧
  stillK .slice h ((some a_4)) v_8 ∧
  opK Tryz.prog .slice (Builtin.append_ #[T.sl_uint8, T.sl_uint8] T.sl_uint8 #[(.slice v_12.a v_12.n v_12.c), (.slice v_10.a v_10.n v_10.c)]) (fun (v_13 : Sl) (h : Heap) =>
  derefK d0 (fun (a_14 : Addr) =>
  fldK ((some a_14)) 0 (fun (a_15 : Addr) =>
  storeK h ((some a_15)) (.slice v_13.a v_13.n v_13.c) (fun (h : Heap) =>
  derefK d0 (fun (a_16 : Addr) =>
  fldK ((some a_16)) 1 (fun (a_17 : Addr) =>
  storeK h ((some a_17)) (.slice none 0 0) (fun (h : Heap) =>
  R (.tuple #[]) h))))))) h) h)))))))))))
def ref25_Disk_Fall.ann : Ann := (.seq (.any (.loc 0 (.loc 2 (.loc 3 (.loc 4 (.loc 7 (.loc 8 (.loc 9 (.loc 11 (.loc 12 (.loc 13 (.loc 14 (.loc 15 (.st 5 15728704 (.st 10 16252928 (.st 16 16646144 (.loc 17 (.loc 18 (.loc 19 (.last 1 (.last 6 (.last 20 (.loc 21 (.loc 22 (.last 23 .done))))))))))))))))))))))))) .leaf)
theorem ref25_Disk_Fall.eq (d0 : Option Addr) (keep1 : Int) (R : Value → Heap → Prop) (h : Heap) : ref25_Disk_Fall.body d0 keep1 R h = evFn Tryz.prog Tryz.f22 ref25_Disk_Fall.ann [(.pointer d0), (.int .i64 keep1)] R h := by kernel_rfl
theorem ref25_Disk_Fall.calls {d0 : Option Addr} {keep1 : Int} {R : Value → Heap → Prop} {h : Heap} (H : ref25_Disk_Fall.body d0 keep1 R h) : HC Tryz.prog F.ref25_Disk_Fall #[(.pointer d0), (.int .i64 keep1)] R h :=
  evFn_sound mixed Tryz.func22 (by kernel_rfl) (ref25_Disk_Fall.eq d0 keep1 R h ▸ H)

/-! (*zugzwang/zugzwangref25.Disk).Sync -/
def ref25_Disk_Sync.body (d0 : Option Addr) (R : Value → Heap → Prop) (h : Heap) : Prop :=
  derefK d0 (fun (a_1 : Addr) =>
  fldK ((some a_1)) 1 (fun (a_2 : Addr) =>
  loadK .slice h ((some a_2)) (fun (v_3 : Sl) =>
  callK Tryz.prog .unit F.ref25_Disk_Fall #[(.pointer d0), (.int .i64 ((v_3.n : Int)))] (fun (v_4 : Unit) (h : Heap) =>
  R (.tuple #[]) h) h)))
def ref25_Disk_Sync.ann : Ann := .leaf
theorem ref25_Disk_Sync.eq (d0 : Option Addr) (R : Value → Heap → Prop) (h : Heap) : ref25_Disk_Sync.body d0 R h = evFn Tryz.prog Tryz.f20 ref25_Disk_Sync.ann [(.pointer d0)] R h := by kernel_rfl
theorem ref25_Disk_Sync.calls {d0 : Option Addr} {R : Value → Heap → Prop} {h : Heap} (H : ref25_Disk_Sync.body d0 R h) : HC Tryz.prog F.ref25_Disk_Sync #[(.pointer d0)] R h :=
  evFn_sound mixed Tryz.func20 (by kernel_rfl) (ref25_Disk_Sync.eq d0 R h ▸ H)

/-! zugzwang/zugzwangkit.KeptBytes -/
def kit_KeptBytes.body (out0 : Sl) (l1 : Sl) (R : Value → Heap → Prop) (h : Heap) : Prop :=
  if (((out0.n : Int)) != ((l1.n : Int))) = true then
  R (.bool false) h
  else
  sliceK out0 none (some (IntKind.i64.wrap (((l1.n : Int)) + 12))) none (sizeOfT Tryz.prog T.uint8) (fun (v_1 : Sl) =>
  loopW (fun X_3 (s_2 : Int) (h : Heap) =>
  if (decide (s_2 < ((v_1.n : Int)))) = true then
  if (decide (s_2 < ((l1.n : Int)))) = true then
  idxK v_1 s_2 (sizeOfT Tryz.prog T.uint8) (fun (a_4 : Addr) =>
  loadK (.int .u8) h ((some a_4)) (fun (v_5 : Int) =>
  idxK l1 s_2 (sizeOfT Tryz.prog T.uint8) (fun (a_6 : Addr) =>
  loadK (.int .u8) h ((some a_6)) (fun (v_7 : Int) =>
  if (!(v_5 == v_7)) = true then
  R (.bool false) h
  else
  if (decide (s_2 ≥ ((l1.n : Int)))) = true then
  idxK v_1 s_2 (sizeOfT Tryz.prog T.uint8) (fun (a_8 : Addr) =>
  loadK (.int .u8) h ((some a_8)) (fun (v_9 : Int) =>
  callQ Tryz.prog (.int .u8) F.kit_markByte #[(.int .i64 1), (.int .i64 (IntKind.i64.wrap (s_2 - ((l1.n : Int)))))] (fun (v_10 : Int) =>
  if (!(v_9 == v_10)) = true then
  R (.bool false) h
  else
  X_3 (IntKind.i64.wrap (s_2 + 1)) h) h))
  else
  X_3 (IntKind.i64.wrap (s_2 + 1)) h))))
  else
  if (decide (s_2 ≥ ((l1.n : Int)))) = true then
  idxK v_1 s_2 (sizeOfT Tryz.prog T.uint8) (fun (a_11 : Addr) =>
  loadK (.int .u8) h ((some a_11)) (fun (v_12 : Int) =>
  callQ Tryz.prog (.int .u8) F.kit_markByte #[(.int .i64 1), (.int .i64 (IntKind.i64.wrap (s_2 - ((l1.n : Int)))))] (fun (v_13 : Int) =>
  if (!(v_12 == v_13)) = true then
  R (.bool false) h
  else
  X_3 (IntKind.i64.wrap (s_2 + 1)) h) h))
  else
  X_3 (IntKind.i64.wrap (s_2 + 1)) h
  else
  R (.bool true) h) 0 h)
def kit_KeptBytes.ann : Ann := (.seq .leaf (.seq (.seq .leaf (.cond (.seq .leaf .leaf) .leaf)) (.seq .leaf (.seq (.seq .leaf (.block (.loop [(6, (.int .i64))] (.seq (.seq .leaf (.cond .leaf .leaf)) (.seq (.block (.seq .leaf (.cond (.seq .leaf .leaf) .leaf))) .leaf))))) (.seq .leaf .leaf)))))
theorem kit_KeptBytes.eq (out0 : Sl) (l1 : Sl) (R : Value → Heap → Prop) (h : Heap) : kit_KeptBytes.body out0 l1 R h = evFn Tryz.prog Tryz.f54 kit_KeptBytes.ann [(.slice out0.a out0.n out0.c), (.slice l1.a l1.n l1.c)] R h := by kernel_rfl
theorem kit_KeptBytes.calls {out0 : Sl} {l1 : Sl} {R : Value → Heap → Prop} {h : Heap} (H : kit_KeptBytes.body out0 l1 R h) : HC Tryz.prog F.kit_KeptBytes #[(.slice out0.a out0.n out0.c), (.slice l1.a l1.n l1.c)] R h :=
  evFn_sound mixed Tryz.func54 (by kernel_rfl) (kit_KeptBytes.eq out0 l1 R h ▸ H)

/-! zugzwang/zugzwangkit.KeptByteRows -/
def kit_KeptByteRows.body (in0 : Sl) (l1 : Sl) (R : Value → Heap → Prop) (h : Heap) : Prop :=
  if (((in0.n : Int)) != ((l1.n : Int))) = true then
  R (.bool false) h
  else
  loopW (fun X_2 (s_1 : Int) (h : Heap) =>
  if (decide (s_1 < ((l1.n : Int)))) = true then
  idxK in0 s_1 (sizeOfT Tryz.prog T.sl_uint8) (fun (a_3 : Addr) =>
  loadK .slice h ((some a_3)) (fun (v_4 : Sl) =>
  idxK l1 s_1 (sizeOfT Tryz.prog T.sl_uint8) (fun (a_5 : Addr) =>
  loadK .slice h ((some a_5)) (fun (v_6 : Sl) =>
  callQ Tryz.prog .bool F.kit_KeptBytes #[(.slice v_4.a v_4.n v_4.c), (.slice v_6.a v_6.n v_6.c)] (fun (v_7 : Bool) =>
  if (!v_7) = true then
  R (.bool false) h
  else
  X_2 (IntKind.i64.wrap (s_1 + 1)) h) h))))
  else
  R (.bool true) h) 0 h
def kit_KeptByteRows.ann : Ann := (.seq .leaf (.seq (.seq .leaf (.cond (.seq .leaf .leaf) .leaf)) (.seq (.seq .leaf (.block (.loop [(5, (.int .i64))] (.seq (.seq .leaf (.cond .leaf .leaf)) (.seq (.block (.seq .leaf (.cond (.seq .leaf .leaf) .leaf))) .leaf))))) (.seq .leaf .leaf))))
theorem kit_KeptByteRows.eq (in0 : Sl) (l1 : Sl) (R : Value → Heap → Prop) (h : Heap) : kit_KeptByteRows.body in0 l1 R h = evFn Tryz.prog Tryz.f23 kit_KeptByteRows.ann [(.slice in0.a in0.n in0.c), (.slice l1.a l1.n l1.c)] R h := by kernel_rfl
theorem kit_KeptByteRows.calls {in0 : Sl} {l1 : Sl} {R : Value → Heap → Prop} {h : Heap} (H : kit_KeptByteRows.body in0 l1 R h) : HC Tryz.prog F.kit_KeptByteRows #[(.slice in0.a in0.n in0.c), (.slice l1.a l1.n l1.c)] R h :=
  evFn_sound mixed Tryz.func23 (by kernel_rfl) (kit_KeptByteRows.eq in0 l1 R h ▸ H)

/-! zugzwang/zugzwanglaw26.JournalDoes -/
def law26_JournalDoes.body (b0 : Sl) (l1 : Sl) (R : Value → Heap → Prop) (h : Heap) : Prop :=
  callK Tryz.prog (.int .i64) F.law26_size #[(.slice l1.a l1.n l1.c)] (fun (v_1 : Int) (h : Heap) =>
  if (decide ((IntKind.i64.wrap (v_1 + ((b0.n : Int)))) > 1500)) = true then
  callK Tryz.prog .bool F.law26_awake #[] (fun (v_2 : Bool) (h : Heap) =>
  R (.bool v_2) h) h
  else
  callK Tryz.prog .ptr F.tags_New #[(.bool true), (.slice none 0 0)] (fun (v_3 : Option Addr) (h : Heap) =>
  buildK Tryz.prog (Instr.build T.zugzwangref04_Maker #[(0, (.bool true))]) (fun (v_4 : Array Value) =>
  newK h v_4 T.zugzwangref04_Maker (fun (v_5 : Option Addr) (h : Heap) =>
  newSlK h 1 #[(.slice b0.a b0.n b0.c)] T.sl_uint8 (fun (v_6 : Sl) (h : Heap) =>
  callK Tryz.prog (Kd.pair .ptr (.int .i64)) F.disk_New #[(.slice v_6.a v_6.n v_6.c)] (fun (v_7 : Option Addr × Int) (h : Heap) =>
  callK Tryz.prog (Kd.pair .ptr (.int .i64)) F.journal_Open #[(.pointer v_3), (.pointer v_7.1)] (fun (v_8 : Option Addr × Int) (h : Heap) =>
  buildK Tryz.prog (Instr.build T.zugzwangref25_Disk #[(0, (.slice b0.a b0.n b0.c))]) (fun (v_9 : Array Value) =>
  newK h v_9 T.zugzwangref25_Disk (fun (v_10 : Option Addr) (h : Heap) =>
  callK Tryz.prog .ptr F.ref26_Open #[(.pointer v_5), (.pointer v_10)] (fun (v_11 : Option Addr) (h : Heap) =>
  if (v_8.2 != 0) = true then
  R (.bool false) h
  else
  callK Tryz.prog .bool F.law26_same #[(.pointer v_8.1), (.pointer v_7.1), (.pointer v_11), (.int .i64 0)] (fun (v_12 : Bool) (h : Heap) =>
  if (!v_12) = true then
  R (.bool false) h
  else
  loopW (fun X_14 (s_13 : Option Addr × Int × Option Addr × Int) (h : Heap) =>
  if (decide (s_13.2.2.2 < ((l1.n : Int)))) = true then
  idxK l1 s_13.2.2.2 (sizeOfT Tryz.prog T.zugzwanglaw26_Deed) (fun (a_15 : Addr) =>
  fldK ((some a_15)) 2 (fun (a_16 : Addr) =>
  loadK .slice h ((some a_16)) (fun (v_17 : Sl) =>
  callK Tryz.prog .slice F.kit_LentByteRows #[(.slice v_17.a v_17.n v_17.c)] (fun (v_18 : Sl) (h : Heap) =>
  joinW (fun (s_19 : Option Addr × Int × Option Addr × Bool) (h : Heap) =>
  if (!s_19.2.2.2) = true then
  R (.bool false) h
  else
  if (s_19.2.1 != 0) = true then
  R (.bool false) h
  else
  idxK l1 s_13.2.2.2 (sizeOfT Tryz.prog T.zugzwanglaw26_Deed) (fun (a_20 : Addr) =>
  fldK ((some a_20)) 2 (fun (a_21 : Addr) =>
  loadK .slice h ((some a_21)) (fun (v_22 : Sl) =>
  callK Tryz.prog .bool F.kit_KeptByteRows #[(.slice v_18.a v_18.n v_18.c), (.slice v_22.a v_22.n v_22.c)] (fun (v_23 : Bool) (h : Heap) =>
  if (!v_23) = true then
  R (.bool false) h
  else
  idxK l1 s_13.2.2.2 (sizeOfT Tryz.prog T.zugzwanglaw26_Deed) (fun (a_24 : Addr) =>
  fldK ((some a_24)) 1 (fun (a_25 : Addr) =>
  loadK (.int .i64) h ((some a_25)) (fun (v_26 : Int) =>
  callK Tryz.prog .bool F.law26_same #[(.pointer s_19.1), (.pointer v_7.1), (.pointer s_19.2.2.1), (.int .i64 v_26)] (fun (v_27 : Bool) (h : Heap) =>
  if (!v_27) = true then
  R (.bool false) h
  else
  X_14 (s_19.1, s_19.2.1, s_19.2.2.1, IntKind.i64.wrap (s_13.2.2.2 + 1)) h) h)))) h))))
  (fun J_28 =>
  idxK l1 s_13.2.2.2 (sizeOfT Tryz.prog T.zugzwanglaw26_Deed) (fun (a_29 : Addr) =>
  fldK ((some a_29)) 0 (fun (a_30 : Addr) =>
  loadK (.int .i64) h ((some a_30)) (fun (v_31 : Int) =>
  callK Tryz.prog (.int .i64) F.kit_Pick #[(.int .i64 v_31), (.int .i64 4)] (fun (v_32 : Int) (h : Heap) =>
  if (v_32 == 0) = true then
  idxK l1 s_13.2.2.2 (sizeOfT Tryz.prog T.zugzwanglaw26_Deed) (fun (a_33 : Addr) =>
  fldK ((some a_33)) 2 (fun (a_34 : Addr) =>
  loadK .slice h ((some a_34)) (fun (v_35 : Sl) =>
  callK Tryz.prog (.int .i64) F.journal_Journal_Put #[(.pointer s_13.1), (.slice v_18.a v_18.n v_18.c)] (fun (v_36 : Int) (h : Heap) =>
  stillK .slice h ((some a_34)) v_35 ∧
  callK Tryz.prog (.int .i64) F.ref26_Journal_Put #[(.pointer s_13.2.2.1), (.slice v_35.a v_35.n v_35.c)] (fun (v_37 : Int) (h : Heap) =>
  loopW (fun X_39 (s_38 : Int) (h : Heap) =>
  callK Tryz.prog (.int .i64) F.journal_Journal_Len #[(.pointer s_13.1)] (fun (v_40 : Int) (h : Heap) =>
  if (decide (s_38 < v_40)) = true then
  callK Tryz.prog (Kd.pair .slice .bool) F.journal_Journal_At #[(.pointer s_13.1), (.int .i64 s_38)] (fun (v_41 : Sl × Bool) (h : Heap) =>
  callK Tryz.prog .unit F.kit_OverBytes #[(.slice v_41.1.a v_41.1.n v_41.1.c)] (fun (v_42 : Unit) (h : Heap) =>
  X_39 (IntKind.i64.wrap (s_38 + 1)) h) h) h
  else
  J_28 (s_13.1, s_13.2.1, s_13.2.2.1, v_36 == v_37) h) h) 0 h) h) h)))
  else
  if (v_32 == 1) = true then
  callK Tryz.prog (.int .i64) F.journal_Journal_Sync #[(.pointer s_13.1)] (fun (v_43 : Int) (h : Heap) =>
  derefK s_13.2.2.1 (fun (a_44 : Addr) =>
  fldK ((some a_44)) 1 (fun (a_45 : Addr) =>
  loadK .ptr h ((some a_45)) (fun (v_46 : Option Addr) =>
  callK Tryz.prog .unit F.ref25_Disk_Sync #[(.pointer v_46)] (fun (v_47 : Unit) (h : Heap) =>
  J_28 (s_13.1, s_13.2.1, s_13.2.2.1, v_43 == 0) h) h)))) h
  else
  if (v_32 == 2) = true then
  idxK l1 s_13.2.2.2 (sizeOfT Tryz.prog T.zugzwanglaw26_Deed) (fun (a_48 : Addr) =>
  fldK ((some a_48)) 1 (fun (a_49 : Addr) =>
  loadK (.int .i64) h ((some a_49)) (fun (v_50 : Int) =>
  callK Tryz.prog (.int .i64) F.disk_Disk_Fall #[(.pointer v_7.1), (.int .i64 v_50)] (fun (v_51 : Int) (h : Heap) =>
  derefK s_13.2.2.1 (fun (a_52 : Addr) =>
  fldK ((some a_52)) 1 (fun (a_53 : Addr) =>
  idxK l1 s_13.2.2.2 (sizeOfT Tryz.prog T.zugzwanglaw26_Deed) (fun (a_54 : Addr) =>
  fldK ((some a_54)) 1 (fun (a_55 : Addr) =>
  loadK .ptr h ((some a_53)) (fun (v_56 : Option Addr) =>
  loadK (.int .i64) h ((some a_55)) (fun (v_57 : Int) =>
  callK Tryz.prog .unit F.ref25_Disk_Fall #[(.pointer v_56), (.int .i64 v_57)] (fun (v_58 : Unit) (h : Heap) =>
  callK Tryz.prog (Kd.pair .ptr (.int .i64)) F.journal_Open #[(.pointer v_3), (.pointer v_7.1)] (fun (v_59 : Option Addr × Int) (h : Heap) =>
  derefK s_13.2.2.1 (fun (a_60 : Addr) =>
  fldK ((some a_60)) 1 (fun (a_61 : Addr) =>
  loadK .ptr h ((some a_61)) (fun (v_62 : Option Addr) =>
  callK Tryz.prog .ptr F.ref26_Open #[(.pointer v_5), (.pointer v_62)] (fun (v_63 : Option Addr) (h : Heap) =>
  J_28 (v_59.1, v_59.2, v_63, true) h) h)))) h) h))))))) h)))
  else
  if (v_32 == 3) = true then
  callK Tryz.prog (Kd.pair .ptr (.int .i64)) F.journal_Open #[(.pointer v_3), (.pointer v_7.1)] (fun (v_64 : Option Addr × Int) (h : Heap) =>
  derefK s_13.2.2.1 (fun (a_65 : Addr) =>
  fldK ((some a_65)) 1 (fun (a_66 : Addr) =>
  loadK .ptr h ((some a_66)) (fun (v_67 : Option Addr) =>
  callK Tryz.prog .ptr F.ref26_Open #[(.pointer v_5), (.pointer v_67)] (fun (v_68 : Option Addr) (h : Heap) =>
  J_28 (v_64.1, v_64.2, v_68, true) h) h)))) h
  else
  J_28 (s_13.1, s_13.2.1, s_13.2.2.1, true) h) h))))) h)))
  else
  callK Tryz.prog .bool F.law26_awake #[] (fun (v_69 : Bool) (h : Heap) =>
  R (.bool v_69) h) h) (v_8.1, v_8.2, v_11, 0) h) h) h))) h) h)))) h) h
def law26_JournalDoes.ann : Ann := (.seq .leaf (.seq (.seq .leaf (.cond (.seq .leaf .leaf) .leaf)) (.seq .leaf (.seq .leaf (.seq .leaf (.seq .leaf (.seq (.seq .leaf (.cond (.seq .leaf .leaf) .leaf)) (.seq (.seq .leaf (.block (.loop [(9, .ptr), (10, (.int .i64)), (11, .ptr), (12, (.int .i64))] (.seq (.seq .leaf (.cond .leaf .leaf)) (.seq (.block (.seq .leaf (.seq .leaf (.join [(9, .ptr), (10, (.int .i64)), (11, .ptr), (14, .bool)] (.seq .leaf (.block (.seq .leaf (.cond (.seq (.any (.loc 0 (.loc 1 (.loc 3 (.loc 4 (.loc 5 (.loc 6 (.loc 7 (.st 8 3584 (.last 2 (.last 9 (.loc 10 (.loc 11 .done))))))))))))) (.seq .leaf (.block (.loop [(15, (.int .i64))] (.seq (.seq .leaf (.cond .leaf .leaf)) (.seq (.block (.seq .leaf .leaf)) .leaf)))))) (.seq .leaf (.cond (.seq .leaf .leaf) (.seq .leaf (.cond (.seq .leaf (.seq (.any (.loc 0 (.loc 1 (.loc 2 (.loc 4 (.loc 5 (.loc 6 (.loc 7 (.st 3 512 (.st 8 512 (.last 9 .done))))))))))) (.seq .leaf .leaf))) (.seq .leaf (.cond (.seq .leaf .leaf) .leaf)))))))))) (.seq .leaf (.cond (.seq .leaf .leaf) .leaf)))))) .leaf))))) (.seq .leaf .leaf)))))))))
theorem law26_JournalDoes.eq (b0 : Sl) (l1 : Sl) (R : Value → Heap → Prop) (h : Heap) : law26_JournalDoes.body b0 l1 R h = evFn Tryz.prog Tryz.f3 law26_JournalDoes.ann [(.slice b0.a b0.n b0.c), (.slice l1.a l1.n l1.c)] R h := by kernel_rfl
theorem law26_JournalDoes.calls {b0 : Sl} {l1 : Sl} {R : Value → Heap → Prop} {h : Heap} (H : law26_JournalDoes.body b0 l1 R h) : HC Tryz.prog F.law26_JournalDoes #[(.slice b0.a b0.n b0.c), (.slice l1.a l1.n l1.c)] R h :=
  evFn_sound mixed Tryz.func3 (by kernel_rfl) (law26_JournalDoes.eq b0 l1 R h ▸ H)

/-! zugzwang/zugzwanglaw26.frames -/
def law26_frames.body (m0 : Option Addr) (l1 : Sl) (R : Value → Heap → Prop) (h : Heap) : Prop :=
  loopW (fun X_2 (s_1 : Sl × Int) (h : Heap) =>
  if (decide (s_1.2 < ((l1.n : Int)))) = true then
  idxK l1 s_1.2 (sizeOfT Tryz.prog T.sl_uint8) (fun (a_3 : Addr) =>
  loadK .slice h ((some a_3)) (fun (v_4 : Sl) =>
  callK Tryz.prog .slice F.ref26_Frame #[(.pointer m0), (.int .i64 s_1.2), (.slice v_4.a v_4.n v_4.c)] (fun (v_5 : Sl) (h : Heap) =>
  opK Tryz.prog .slice (Builtin.append_ #[T.sl_uint8, T.sl_uint8] T.sl_uint8 #[(.slice s_1.1.a s_1.1.n s_1.1.c), (.slice v_5.a v_5.n v_5.c)]) (fun (v_6 : Sl) (h : Heap) =>
  X_2 (v_6, IntKind.i64.wrap (s_1.2 + 1)) h) h) h))
  else
  R (.slice s_1.1.a s_1.1.n s_1.1.c) h) (⟨none, 0, 0⟩, 0) h
def law26_frames.ann : Ann := (.seq .leaf (.seq .leaf (.seq (.seq .leaf (.block (.loop [(5, .slice), (6, (.int .i64))] (.seq (.seq .leaf (.cond .leaf .leaf)) (.seq (.block .leaf) .leaf))))) (.seq .leaf .leaf))))
theorem law26_frames.eq (m0 : Option Addr) (l1 : Sl) (R : Value → Heap → Prop) (h : Heap) : law26_frames.body m0 l1 R h = evFn Tryz.prog Tryz.f24 law26_frames.ann [(.pointer m0), (.slice l1.a l1.n l1.c)] R h := by kernel_rfl
theorem law26_frames.calls {m0 : Option Addr} {l1 : Sl} {R : Value → Heap → Prop} {h : Heap} (H : law26_frames.body m0 l1 R h) : HC Tryz.prog F.law26_frames #[(.pointer m0), (.slice l1.a l1.n l1.c)] R h :=
  evFn_sound mixed Tryz.func24 (by kernel_rfl) (law26_frames.eq m0 l1 R h ▸ H)

/-! zugzwang/zugzwanglaw26.full -/
def law26_full.body  (R : Value → Heap → Prop) (h : Heap) : Prop :=
  callK Tryz.prog (Kd.pair .ptr (.int .i64)) F.disk_New #[(.slice none 0 0)] (fun (v_1 : Option Addr × Int) (h : Heap) =>
  callK Tryz.prog .ptr F.tags_New #[(.bool true), (.slice none 0 0)] (fun (v_2 : Option Addr) (h : Heap) =>
  callK Tryz.prog (Kd.pair .ptr (.int .i64)) F.journal_Open #[(.pointer v_2), (.pointer v_1.1)] (fun (v_3 : Option Addr × Int) (h : Heap) =>
  opK Tryz.prog .slice (Instr.makeSlice T.sl_uint8 (.int .i64 4096) (.int .i64 4096)) (fun (v_4 : Sl) (h : Heap) =>
  loopW (fun X_6 (s_5 : Int) (h : Heap) =>
  if (decide (s_5 < 253)) = true then
  newSlK h 1 #[(.slice v_4.a v_4.n v_4.c)] T.sl_uint8 (fun (v_7 : Sl) (h : Heap) =>
  callK Tryz.prog (.int .i64) F.journal_Journal_Put #[(.pointer v_3.1), (.slice v_7.a v_7.n v_7.c)] (fun (v_8 : Int) (h : Heap) =>
  if (v_8 != 0) = true then
  R (.bool false) h
  else
  X_6 (IntKind.i64.wrap (s_5 + 1)) h) h)
  else
  callK Tryz.prog (.int .i64) F.disk_Disk_Len #[(.pointer v_1.1)] (fun (v_9 : Int) (h : Heap) =>
  if (decide ((IntKind.i64.wrap ((IntKind.i64.wrap (1048576 - v_9)) - 36)) < 0)) = true then
  R (.bool false) h
  else
  if (decide ((IntKind.i64.wrap ((IntKind.i64.wrap (1048576 - v_9)) - 36)) > 4096)) = true then
  R (.bool false) h
  else
  sliceK v_4 none (some (IntKind.i64.wrap ((IntKind.i64.wrap (1048576 - v_9)) - 36))) none (sizeOfT Tryz.prog T.uint8) (fun (v_10 : Sl) =>
  newSlK h 2 #[(.slice v_10.a v_10.n v_10.c), (.slice none 0 0)] T.sl_uint8 (fun (v_11 : Sl) (h : Heap) =>
  callK Tryz.prog (.int .i64) F.journal_Journal_Put #[(.pointer v_3.1), (.slice v_11.a v_11.n v_11.c)] (fun (v_12 : Int) (h : Heap) =>
  if (v_12 != 3) = true then
  R (.bool false) h
  else
  callK Tryz.prog (.int .i64) F.journal_Journal_Len #[(.pointer v_3.1)] (fun (v_13 : Int) (h : Heap) =>
  if (v_13 != 253) = true then
  R (.bool false) h
  else
  sliceK v_4 none (some (IntKind.i64.wrap ((IntKind.i64.wrap (1048576 - v_9)) - 36))) none (sizeOfT Tryz.prog T.uint8) (fun (v_14 : Sl) =>
  newSlK h 1 #[(.slice v_14.a v_14.n v_14.c)] T.sl_uint8 (fun (v_15 : Sl) (h : Heap) =>
  callK Tryz.prog (.int .i64) F.journal_Journal_Put #[(.pointer v_3.1), (.slice v_15.a v_15.n v_15.c)] (fun (v_16 : Int) (h : Heap) =>
  if (v_16 != 0) = true then
  R (.bool false) h
  else
  callK Tryz.prog (.int .i64) F.disk_Disk_Len #[(.pointer v_1.1)] (fun (v_17 : Int) (h : Heap) =>
  if (v_17 != 1048576) = true then
  R (.bool false) h
  else
  newSlK h 1 #[(.slice none 0 0)] T.sl_uint8 (fun (v_18 : Sl) (h : Heap) =>
  callK Tryz.prog (.int .i64) F.journal_Journal_Put #[(.pointer v_3.1), (.slice v_18.a v_18.n v_18.c)] (fun (v_19 : Int) (h : Heap) =>
  if (v_19 != 3) = true then
  R (.bool false) h
  else
  callK Tryz.prog (Kd.pair .ptr (.int .i64)) F.journal_Open #[(.pointer v_2), (.pointer v_1.1)] (fun (v_20 : Option Addr × Int) (h : Heap) =>
  if (v_20.2 == 0) = true then
  callK Tryz.prog (.int .i64) F.journal_Journal_Len #[(.pointer v_20.1)] (fun (v_21 : Int) (h : Heap) =>
  R (.bool (v_21 == 254)) h) h
  else
  R (.bool false) h) h) h)) h) h))) h) h))) h) 0 h) h) h) h) h
def law26_full.ann : Ann := (.seq .leaf (.seq .leaf (.seq .leaf (.seq .leaf (.seq .leaf (.seq (.seq .leaf (.block (.loop [(7, (.int .i64))] (.seq (.seq .leaf (.cond .leaf .leaf)) (.seq (.block (.seq .leaf (.cond (.seq .leaf .leaf) .leaf))) .leaf))))) (.seq .leaf (.seq (.seq .leaf (.cond (.seq .leaf .leaf) .leaf)) (.seq .leaf (.seq .leaf .leaf))))))))))
theorem law26_full.eq  (R : Value → Heap → Prop) (h : Heap) : law26_full.body  R h = evFn Tryz.prog Tryz.f27 law26_full.ann [] R h := by kernel_rfl
theorem law26_full.calls  {R : Value → Heap → Prop} {h : Heap} (H : law26_full.body  R h) : HC Tryz.prog F.law26_full #[] R h :=
  evFn_sound mixed Tryz.func27 (by kernel_rfl) (law26_full.eq  R h ▸ H)

/-! zugzwang/zugzwanglaw26.none -/
def law26_none.body  (R : Value → Heap → Prop) (h : Heap) : Prop :=
  newSlK h 1 #[(.int .u8 1)] T.uint8 (fun (v_1 : Sl) (h : Heap) =>
  newSlK h 1 #[(.slice v_1.a v_1.n v_1.c)] T.sl_uint8 (fun (v_2 : Sl) (h : Heap) =>
  callK Tryz.prog (Kd.pair .ptr (.int .i64)) F.disk_New #[(.slice v_2.a v_2.n v_2.c)] (fun (v_3 : Option Addr × Int) (h : Heap) =>
  callK Tryz.prog (Kd.pair .ptr (.int .i64)) F.journal_Open #[(.pointer none), (.pointer v_3.1)] (fun (v_4 : Option Addr × Int) (h : Heap) =>
  callK Tryz.prog .ptr F.tags_New #[(.bool false), (.slice none 0 0)] (fun (v_5 : Option Addr) (h : Heap) =>
  callK Tryz.prog (Kd.pair .ptr (.int .i64)) F.journal_Open #[(.pointer v_5), (.pointer none)] (fun (v_6 : Option Addr × Int) (h : Heap) =>
  callK Tryz.prog .ptr F.tags_New #[(.bool false), (.slice none 0 0)] (fun (v_7 : Option Addr) (h : Heap) =>
  buildK Tryz.prog (Instr.build T.disk_Disk #[]) (fun (v_8 : Array Value) =>
  newK h v_8 T.disk_Disk (fun (v_9 : Option Addr) (h : Heap) =>
  callK Tryz.prog (Kd.pair .ptr (.int .i64)) F.journal_Open #[(.pointer v_7), (.pointer v_9)] (fun (v_10 : Option Addr × Int) (h : Heap) =>
  buildK Tryz.prog (Instr.build T.journal_Journal #[]) (fun (v_11 : Array Value) =>
  newK h v_11 T.journal_Journal (fun (v_12 : Option Addr) (h : Heap) =>
  newSlK h 2 #[(.pointer none), (.pointer v_12)] T.p_journal_Journal (fun (v_13 : Sl) (h : Heap) =>
  loopW (fun X_15 (s_14 : Int) (h : Heap) =>
  if (decide (s_14 < 2)) = true then
  idxK v_13 s_14 (sizeOfT Tryz.prog T.p_journal_Journal) (fun (a_16 : Addr) =>
  loadK .ptr h ((some a_16)) (fun (v_17 : Option Addr) =>
  callK Tryz.prog (Kd.pair .slice .bool) F.journal_Journal_At #[(.pointer v_17), (.int .i64 0)] (fun (v_18 : Sl × Bool) (h : Heap) =>
  idxK v_13 s_14 (sizeOfT Tryz.prog T.p_journal_Journal) (fun (a_19 : Addr) =>
  loadK .ptr h ((some a_19)) (fun (v_20 : Option Addr) =>
  opK Tryz.prog .slice (Instr.makeSlice T.sl_uint8 (.int .i64 8192) (.int .i64 8192)) (fun (v_21 : Sl) (h : Heap) =>
  newSlK h 1 #[(.slice v_21.a v_21.n v_21.c)] T.sl_uint8 (fun (v_22 : Sl) (h : Heap) =>
  callK Tryz.prog (.int .i64) F.journal_Journal_Put #[(.pointer v_20), (.slice v_22.a v_22.n v_22.c)] (fun (v_23 : Int) (h : Heap) =>
  if (v_23 != 1) = true then
  R (.bool false) h
  else
  idxK v_13 s_14 (sizeOfT Tryz.prog T.p_journal_Journal) (fun (a_24 : Addr) =>
  loadK .ptr h ((some a_24)) (fun (v_25 : Option Addr) =>
  callK Tryz.prog (.int .i64) F.journal_Journal_Sync #[(.pointer v_25)] (fun (v_26 : Int) (h : Heap) =>
  if (v_26 != 1) = true then
  R (.bool false) h
  else
  if v_18.2 = true then
  R (.bool false) h
  else
  idxK v_13 s_14 (sizeOfT Tryz.prog T.p_journal_Journal) (fun (a_27 : Addr) =>
  idxK v_13 s_14 (sizeOfT Tryz.prog T.p_journal_Journal) (fun (a_28 : Addr) =>
  loadK .ptr h ((some a_27)) (fun (v_29 : Option Addr) =>
  loadK .ptr h ((some a_28)) (fun (v_30 : Option Addr) =>
  callK Tryz.prog (.int .i64) F.journal_Journal_Len #[(.pointer v_29)] (fun (v_31 : Int) (h : Heap) =>
  stillK .ptr h ((some a_28)) v_30 ∧
  callK Tryz.prog .slice F.journal_Journal_Records #[(.pointer v_30)] (fun (v_32 : Sl) (h : Heap) =>
  if ((IntKind.i64.wrap ((IntKind.i64.wrap (((v_18.1.n : Int)) + v_31)) + ((v_32.n : Int)))) != 0) = true then
  R (.bool false) h
  else
  X_15 (IntKind.i64.wrap (s_14 + 1)) h) h) h))))) h))) h)) h))) h))
  else
  if (v_4.2 == 1) = true then
  if (v_6.2 == 1) = true then
  if (v_10.2 == 1) = true then
  callK Tryz.prog (.int .i64) F.disk_Disk_Len #[(.pointer v_3.1)] (fun (v_33 : Int) (h : Heap) =>
  R (.bool (v_33 == 1)) h) h
  else
  R (.bool false) h
  else
  R (.bool false) h
  else
  R (.bool false) h) 0 h)))) h))) h) h) h) h) h))
def law26_none.ann : Ann := (.seq .leaf (.seq .leaf (.seq .leaf (.seq .leaf (.seq .leaf (.seq .leaf (.seq (.seq .leaf (.block (.loop [(10, (.int .i64))] (.seq (.seq .leaf (.cond .leaf .leaf)) (.seq (.block (.seq .leaf (.seq (.any (.loc 0 (.loc 1 (.loc 2 (.st 3 137438953408 (.last 4 (.last 5 (.last 6 (.loc 7 (.loc 8 (.locA 9 (.loc 10 (.loc 11 (.loc 12 (.loc 13 (.loc 14 (.loc 15 (.loc 16 (.loc 17 (.loc 18 (.loc 19 (.loc 20 (.loc 21 (.loc 22 (.loc 23 (.loc 24 (.loc 25 (.loc 26 (.loc 27 (.loc 28 (.loc 29 (.loc 30 (.loc 31 (.loc 32 (.loc 33 (.loc 34 (.loc 35 (.loc 36 .done))))))))))))))))))))))))))) (.loc 10 (.loc 11 (.st 12 137438945280 (.last 13 (.loc 14 (.loc 15 (.loc 16 (.locA 17 (.loc 18 (.loc 19 (.loc 20 (.loc 21 (.loc 22 (.loc 23 (.loc 24 (.loc 25 (.loc 26 (.loc 27 (.loc 28 (.loc 29 (.loc 30 (.loc 31 (.loc 32 (.loc 33 (.loc 34 (.loc 35 (.loc 36 .done))))))))))))))))))) (.loc 18 (.loc 19 (.locA 20 (.loc 21 (.loc 22 (.loc 23 (.loc 24 (.loc 25 (.loc 26 (.loc 27 (.loc 28 (.loc 29 (.loc 30 (.loc 31 (.loc 32 (.loc 33 (.loc 34 (.loc 35 (.loc 36 .done)))))))))))))))) (.loc 21 (.loc 22 (.loc 23 (.loc 24 (.loc 28 (.loc 29 (.loc 30 (.st 25 133345312768 (.st 31 133143986176 (.last 26 (.loc 27 (.last 32 (.loc 33 (.loc 34 (.loc 35 (.loc 36 .done)))))))))))))))))))))))))))))))))))))) (.cond (.seq .leaf .leaf) .leaf)))) .leaf))))) (.seq .leaf .leaf))))))))
theorem law26_none.eq  (R : Value → Heap → Prop) (h : Heap) : law26_none.body  R h = evFn Tryz.prog Tryz.f28 law26_none.ann [] R h := by kernel_rfl
theorem law26_none.calls  {R : Value → Heap → Prop} {h : Heap} (H : law26_none.body  R h) : HC Tryz.prog F.law26_none #[] R h :=
  evFn_sound mixed Tryz.func28 (by kernel_rfl) (law26_none.eq  R h ▸ H)

/-! zugzwang/zugzwanglaw26.JournalSmall -/
def law26_JournalSmall.body  (R : Value → Heap → Prop) (h : Heap) : Prop :=
  buildK Tryz.prog (Instr.build T.zugzwangref04_Maker #[(0, (.bool true))]) (fun (v_1 : Array Value) =>
  newK h v_1 T.zugzwangref04_Maker (fun (v_2 : Option Addr) (h : Heap) =>
  newSlK h 1 #[(.int .u8 7)] T.uint8 (fun (v_3 : Sl) (h : Heap) =>
  newSlK h 3 #[(.int .u8 8), (.int .u8 9), (.int .u8 10)] T.uint8 (fun (v_4 : Sl) (h : Heap) =>
  newSlK h 4 #[(.int .u8 0), (.int .u8 0), (.int .u8 0), (.int .u8 0)] T.uint8 (fun (v_5 : Sl) (h : Heap) =>
  newSlK h 4 #[(.slice v_3.a v_3.n v_3.c), (.slice none 0 0), (.slice v_4.a v_4.n v_4.c), (.slice v_5.a v_5.n v_5.c)] T.sl_uint8 (fun (v_6 : Sl) (h : Heap) =>
  callK Tryz.prog .slice F.law26_frames #[(.pointer v_2), (.slice v_6.a v_6.n v_6.c)] (fun (v_7 : Sl) (h : Heap) =>
  newSlK h 1 #[(.int .u8 5)] T.uint8 (fun (v_8 : Sl) (h : Heap) =>
  newSlK h 1 #[(.int .u8 6)] T.uint8 (fun (v_9 : Sl) (h : Heap) =>
  newSlK h 2 #[(.slice v_8.a v_8.n v_8.c), (.slice v_9.a v_9.n v_9.c)] T.sl_uint8 (fun (v_10 : Sl) (h : Heap) =>
  buildK Tryz.prog (Instr.build T.zugzwanglaw26_Deed #[(2, (.slice v_10.a v_10.n v_10.c))]) (fun (v_11 : Array Value) =>
  newK h (zerosOf Tryz.prog T.zugzwanglaw26_Deed) T.zugzwanglaw26_Deed (fun (put_12 : Option Addr) (h : Heap) =>
  storeAggK (sizeOfT Tryz.prog T.zugzwanglaw26_Deed) h put_12 v_11 (fun (h : Heap) =>
  loopW (fun X_14 (s_13 : Int) (h : Heap) =>
  if (decide (s_13 ≤ ((v_7.n : Int)))) = true then
  sliceK v_7 none (some s_13) none (sizeOfT Tryz.prog T.uint8) (fun (v_15 : Sl) =>
  loadAggK (sizeOfT Tryz.prog T.zugzwanglaw26_Deed) h put_12 (fun (v_16 : Array Value) =>
  opK Tryz.prog .slice (Instr.buildSlice T.sl_zugzwanglaw26_Deed 1 #[(0, (.agg v_16))]) (fun (v_17 : Sl) (h : Heap) =>
  callK Tryz.prog .bool F.law26_JournalDoes #[(.slice v_15.a v_15.n v_15.c), (.slice v_17.a v_17.n v_17.c)] (fun (v_18 : Bool) (h : Heap) =>
  if (!v_18) = true then
  R (.bool false) h
  else
  sliceK v_7 (some s_13) none none (sizeOfT Tryz.prog T.uint8) (fun (v_19 : Sl) =>
  buildK Tryz.prog (Instr.build T.zugzwanglaw26_Deed #[(0, (.int .i64 2)), (1, (.int .i64 s_13))]) (fun (v_20 : Array Value) =>
  loadAggK (sizeOfT Tryz.prog T.zugzwanglaw26_Deed) h put_12 (fun (v_21 : Array Value) =>
  opK Tryz.prog .slice (Instr.buildSlice T.sl_zugzwanglaw26_Deed 2 #[(0, (.agg v_21)), (1, (.agg v_20))]) (fun (v_22 : Sl) (h : Heap) =>
  callK Tryz.prog .bool F.law26_JournalDoes #[(.slice v_19.a v_19.n v_19.c), (.slice v_22.a v_22.n v_22.c)] (fun (v_23 : Bool) (h : Heap) =>
  if (!v_23) = true then
  R (.bool false) h
  else
  buildK Tryz.prog (Instr.build T.zugzwanglaw26_Deed #[(0, (.int .i64 1))]) (fun (v_24 : Array Value) =>
  buildK Tryz.prog (Instr.build T.zugzwanglaw26_Deed #[(0, (.int .i64 2)), (1, (.int .i64 s_13))]) (fun (v_25 : Array Value) =>
  loadAggK (sizeOfT Tryz.prog T.zugzwanglaw26_Deed) h put_12 (fun (v_26 : Array Value) =>
  loadAggK (sizeOfT Tryz.prog T.zugzwanglaw26_Deed) h put_12 (fun (v_27 : Array Value) =>
  opK Tryz.prog .slice (Instr.buildSlice T.sl_zugzwanglaw26_Deed 4 #[(0, (.agg v_24)), (1, (.agg v_26)), (2, (.agg v_25)), (3, (.agg v_27))]) (fun (v_28 : Sl) (h : Heap) =>
  callK Tryz.prog .bool F.law26_JournalDoes #[(.slice none 0 0), (.slice v_28.a v_28.n v_28.c)] (fun (v_29 : Bool) (h : Heap) =>
  if (!v_29) = true then
  R (.bool false) h
  else
  if (decide (s_13 < ((v_7.n : Int)))) = true then
  newSlK h 0 #[] T.uint8 (fun (v_30 : Sl) (h : Heap) =>
  opK Tryz.prog .slice (Builtin.append_ #[T.sl_uint8, T.sl_uint8] T.sl_uint8 #[(.slice v_30.a v_30.n v_30.c), (.slice v_7.a v_7.n v_7.c)]) (fun (v_31 : Sl) (h : Heap) =>
  idxK v_31 s_13 (sizeOfT Tryz.prog T.uint8) (fun (a_32 : Addr) =>
  loadK (.int .u8) h ((some a_32)) (fun (v_33 : Int) =>
  idxK v_31 s_13 (sizeOfT Tryz.prog T.uint8) (fun (a_34 : Addr) =>
  storeK h ((some a_34)) (.int .u8 (IntKind.u8.wrap (v_33 + 1))) (fun (h : Heap) =>
  loadAggK (sizeOfT Tryz.prog T.zugzwanglaw26_Deed) h put_12 (fun (v_35 : Array Value) =>
  buildK Tryz.prog (Instr.build T.zugzwanglaw26_Deed #[(0, (.int .i64 3))]) (fun (v_36 : Array Value) =>
  opK Tryz.prog .slice (Instr.buildSlice T.sl_zugzwanglaw26_Deed 2 #[(0, (.agg v_35)), (1, (.agg v_36))]) (fun (v_37 : Sl) (h : Heap) =>
  callK Tryz.prog .bool F.law26_JournalDoes #[(.slice v_31.a v_31.n v_31.c), (.slice v_37.a v_37.n v_37.c)] (fun (v_38 : Bool) (h : Heap) =>
  if (!v_38) = true then
  R (.bool false) h
  else
  X_14 (IntKind.i64.wrap (s_13 + 1)) h) h) h))))))) h)
  else
  X_14 (IntKind.i64.wrap (s_13 + 1)) h) h) h))))) h) h)))) h) h))
  else
  loopW (fun X_40 (s_39 : Int) (h : Heap) =>
  if (decide (s_39 < 4)) = true then
  idxK v_6 s_39 (sizeOfT Tryz.prog T.sl_uint8) (fun (a_41 : Addr) =>
  loadK .slice h ((some a_41)) (fun (v_42 : Sl) =>
  callK Tryz.prog .slice F.ref26_Frame #[(.pointer v_2), (.int .i64 s_39), (.slice v_42.a v_42.n v_42.c)] (fun (v_43 : Sl) (h : Heap) =>
  buildK Tryz.prog (Instr.build T.zugzwanglaw26_Deed #[(0, (.int .i64 3)), (1, (.int .i64 s_39))]) (fun (v_44 : Array Value) =>
  loadAggK (sizeOfT Tryz.prog T.zugzwanglaw26_Deed) h put_12 (fun (v_45 : Array Value) =>
  ((newSlK h 0 #[] T.uint8 (fun (v_46 : Sl) (h : Heap) =>
  ((opK Tryz.prog .slice (Builtin.append_ #[T.sl_uint8, T.sl_uint8] T.sl_uint8 #[(.slice v_46.a v_46.n v_46.c), (.slice v_7.a v_7.n v_7.c)]) (fun (v_47 : Sl) (h : Heap) =>
  stillAggK (sizeOfT Tryz.prog T.zugzwanglaw26_Deed) h put_12 v_45 ∧
  ((opK Tryz.prog .slice (Builtin.append_ #[T.sl_uint8, T.sl_uint8] T.sl_uint8 #[(.slice v_47.a v_47.n v_47.c), (.slice v_43.a v_43.n v_43.c)]) (fun (v_48 : Sl) (h : Heap) =>
  stillAggK (sizeOfT Tryz.prog T.zugzwanglaw26_Deed) h put_12 v_45 ∧
  opK Tryz.prog .slice (Instr.buildSlice T.sl_zugzwanglaw26_Deed 2 #[(0, (.agg v_45)), (1, (.agg v_44))]) (fun (v_49 : Sl) (h : Heap) =>
  callK Tryz.prog .bool F.law26_JournalDoes #[(.slice v_48.a v_48.n v_48.c), (.slice v_49.a v_49.n v_49.c)] (fun (v_50 : Bool) (h : Heap) =>
  if (!v_50) = true then
  R (.bool false) h
  else
  buildK Tryz.prog (Instr.build T.zugzwanglaw26_Deed #[(0, (.int .i64 3))]) (fun (v_51 : Array Value) =>
  loadAggK (sizeOfT Tryz.prog T.zugzwanglaw26_Deed) h put_12 (fun (v_52 : Array Value) =>
  ((newSlK h 0 #[] T.uint8 (fun (v_53 : Sl) (h : Heap) =>
  ((opK Tryz.prog .slice (Builtin.append_ #[T.sl_uint8, T.sl_uint8] T.sl_uint8 #[(.slice v_53.a v_53.n v_53.c), (.slice v_43.a v_43.n v_43.c)]) (fun (v_54 : Sl) (h : Heap) =>
  stillAggK (sizeOfT Tryz.prog T.zugzwanglaw26_Deed) h put_12 v_52 ∧
  ((opK Tryz.prog .slice (Builtin.append_ #[T.sl_uint8, T.sl_uint8] T.sl_uint8 #[(.slice v_54.a v_54.n v_54.c), (.slice v_7.a v_7.n v_7.c)]) (fun (v_55 : Sl) (h : Heap) =>
  stillAggK (sizeOfT Tryz.prog T.zugzwanglaw26_Deed) h put_12 v_52 ∧
  opK Tryz.prog .slice (Instr.buildSlice T.sl_zugzwanglaw26_Deed 2 #[(0, (.agg v_52)), (1, (.agg v_51))]) (fun (v_56 : Sl) (h : Heap) =>
  callK Tryz.prog .bool F.law26_JournalDoes #[(.slice v_55.a v_55.n v_55.c), (.slice v_56.a v_56.n v_56.c)] (fun (v_57 : Bool) (h : Heap) =>
  if (!v_57) = true then
  R (.bool false) h
  else
  X_40 (IntKind.i64.wrap (s_39 + 1)) h) h) h) h) ∧
  (opK Tryz.prog .slice (Instr.buildSlice T.sl_zugzwanglaw26_Deed 2 #[(0, (.agg v_52)), (1, (.agg v_51))]) (fun (v_58 : Sl) (h : Heap) =>
  opK Tryz.prog .slice (Builtin.append_ #[T.sl_uint8, T.sl_uint8] T.sl_uint8 #[(.slice v_54.a v_54.n v_54.c), (.slice v_7.a v_7.n v_7.c)]) (fun (v_59 : Sl) (h : Heap) =>
  callK Tryz.prog .bool F.law26_JournalDoes #[(.slice v_59.a v_59.n v_59.c), (.slice v_58.a v_58.n v_58.c)] (fun (v_60 : Bool) (h : Heap) =>
  if (!v_60) = true then
  R (.bool false) h
  else
  X_40 (IntKind.i64.wrap (s_39 + 1)) h) h) h) h))) h) ∧
  (opK Tryz.prog .slice (Instr.buildSlice T.sl_zugzwanglaw26_Deed 2 #[(0, (.agg v_52)), (1, (.agg v_51))]) (fun (v_61 : Sl) (h : Heap) =>
  opK Tryz.prog .slice (Builtin.append_ #[T.sl_uint8, T.sl_uint8] T.sl_uint8 #[(.slice v_53.a v_53.n v_53.c), (.slice v_43.a v_43.n v_43.c)]) (fun (v_62 : Sl) (h : Heap) =>
  opK Tryz.prog .slice (Builtin.append_ #[T.sl_uint8, T.sl_uint8] T.sl_uint8 #[(.slice v_62.a v_62.n v_62.c), (.slice v_7.a v_7.n v_7.c)]) (fun (v_63 : Sl) (h : Heap) =>
  callK Tryz.prog .bool F.law26_JournalDoes #[(.slice v_63.a v_63.n v_63.c), (.slice v_61.a v_61.n v_61.c)] (fun (v_64 : Bool) (h : Heap) =>
  if (!v_64) = true then
  R (.bool false) h
  else
  X_40 (IntKind.i64.wrap (s_39 + 1)) h) h) h) h) h)))) ∧
  (opK Tryz.prog .slice (Instr.buildSlice T.sl_zugzwanglaw26_Deed 2 #[(0, (.agg v_52)), (1, (.agg v_51))]) (fun (v_65 : Sl) (h : Heap) =>
  newSlK h 0 #[] T.uint8 (fun (v_66 : Sl) (h : Heap) =>
  opK Tryz.prog .slice (Builtin.append_ #[T.sl_uint8, T.sl_uint8] T.sl_uint8 #[(.slice v_66.a v_66.n v_66.c), (.slice v_43.a v_43.n v_43.c)]) (fun (v_67 : Sl) (h : Heap) =>
  opK Tryz.prog .slice (Builtin.append_ #[T.sl_uint8, T.sl_uint8] T.sl_uint8 #[(.slice v_67.a v_67.n v_67.c), (.slice v_7.a v_7.n v_7.c)]) (fun (v_68 : Sl) (h : Heap) =>
  callK Tryz.prog .bool F.law26_JournalDoes #[(.slice v_68.a v_68.n v_68.c), (.slice v_65.a v_65.n v_65.c)] (fun (v_69 : Bool) (h : Heap) =>
  if (!v_69) = true then
  R (.bool false) h
  else
  X_40 (IntKind.i64.wrap (s_39 + 1)) h) h) h) h)) h))))) h) h) h) ∧
  (opK Tryz.prog .slice (Instr.buildSlice T.sl_zugzwanglaw26_Deed 2 #[(0, (.agg v_45)), (1, (.agg v_44))]) (fun (v_70 : Sl) (h : Heap) =>
  opK Tryz.prog .slice (Builtin.append_ #[T.sl_uint8, T.sl_uint8] T.sl_uint8 #[(.slice v_47.a v_47.n v_47.c), (.slice v_43.a v_43.n v_43.c)]) (fun (v_71 : Sl) (h : Heap) =>
  callK Tryz.prog .bool F.law26_JournalDoes #[(.slice v_71.a v_71.n v_71.c), (.slice v_70.a v_70.n v_70.c)] (fun (v_72 : Bool) (h : Heap) =>
  if (!v_72) = true then
  R (.bool false) h
  else
  buildK Tryz.prog (Instr.build T.zugzwanglaw26_Deed #[(0, (.int .i64 3))]) (fun (v_73 : Array Value) =>
  loadAggK (sizeOfT Tryz.prog T.zugzwanglaw26_Deed) h put_12 (fun (v_74 : Array Value) =>
  ((newSlK h 0 #[] T.uint8 (fun (v_75 : Sl) (h : Heap) =>
  ((opK Tryz.prog .slice (Builtin.append_ #[T.sl_uint8, T.sl_uint8] T.sl_uint8 #[(.slice v_75.a v_75.n v_75.c), (.slice v_43.a v_43.n v_43.c)]) (fun (v_76 : Sl) (h : Heap) =>
  stillAggK (sizeOfT Tryz.prog T.zugzwanglaw26_Deed) h put_12 v_74 ∧
  ((opK Tryz.prog .slice (Builtin.append_ #[T.sl_uint8, T.sl_uint8] T.sl_uint8 #[(.slice v_76.a v_76.n v_76.c), (.slice v_7.a v_7.n v_7.c)]) (fun (v_77 : Sl) (h : Heap) =>
  stillAggK (sizeOfT Tryz.prog T.zugzwanglaw26_Deed) h put_12 v_74 ∧
  opK Tryz.prog .slice (Instr.buildSlice T.sl_zugzwanglaw26_Deed 2 #[(0, (.agg v_74)), (1, (.agg v_73))]) (fun (v_78 : Sl) (h : Heap) =>
  callK Tryz.prog .bool F.law26_JournalDoes #[(.slice v_77.a v_77.n v_77.c), (.slice v_78.a v_78.n v_78.c)] (fun (v_79 : Bool) (h : Heap) =>
  if (!v_79) = true then
  R (.bool false) h
  else
  X_40 (IntKind.i64.wrap (s_39 + 1)) h) h) h) h) ∧
  (opK Tryz.prog .slice (Instr.buildSlice T.sl_zugzwanglaw26_Deed 2 #[(0, (.agg v_74)), (1, (.agg v_73))]) (fun (v_80 : Sl) (h : Heap) =>
  opK Tryz.prog .slice (Builtin.append_ #[T.sl_uint8, T.sl_uint8] T.sl_uint8 #[(.slice v_76.a v_76.n v_76.c), (.slice v_7.a v_7.n v_7.c)]) (fun (v_81 : Sl) (h : Heap) =>
  callK Tryz.prog .bool F.law26_JournalDoes #[(.slice v_81.a v_81.n v_81.c), (.slice v_80.a v_80.n v_80.c)] (fun (v_82 : Bool) (h : Heap) =>
  if (!v_82) = true then
  R (.bool false) h
  else
  X_40 (IntKind.i64.wrap (s_39 + 1)) h) h) h) h))) h) ∧
  (opK Tryz.prog .slice (Instr.buildSlice T.sl_zugzwanglaw26_Deed 2 #[(0, (.agg v_74)), (1, (.agg v_73))]) (fun (v_83 : Sl) (h : Heap) =>
  opK Tryz.prog .slice (Builtin.append_ #[T.sl_uint8, T.sl_uint8] T.sl_uint8 #[(.slice v_75.a v_75.n v_75.c), (.slice v_43.a v_43.n v_43.c)]) (fun (v_84 : Sl) (h : Heap) =>
  opK Tryz.prog .slice (Builtin.append_ #[T.sl_uint8, T.sl_uint8] T.sl_uint8 #[(.slice v_84.a v_84.n v_84.c), (.slice v_7.a v_7.n v_7.c)]) (fun (v_85 : Sl) (h : Heap) =>
  callK Tryz.prog .bool F.law26_JournalDoes #[(.slice v_85.a v_85.n v_85.c), (.slice v_83.a v_83.n v_83.c)] (fun (v_86 : Bool) (h : Heap) =>
  if (!v_86) = true then
  R (.bool false) h
  else
  X_40 (IntKind.i64.wrap (s_39 + 1)) h) h) h) h) h)))) ∧
  (opK Tryz.prog .slice (Instr.buildSlice T.sl_zugzwanglaw26_Deed 2 #[(0, (.agg v_74)), (1, (.agg v_73))]) (fun (v_87 : Sl) (h : Heap) =>
  newSlK h 0 #[] T.uint8 (fun (v_88 : Sl) (h : Heap) =>
  opK Tryz.prog .slice (Builtin.append_ #[T.sl_uint8, T.sl_uint8] T.sl_uint8 #[(.slice v_88.a v_88.n v_88.c), (.slice v_43.a v_43.n v_43.c)]) (fun (v_89 : Sl) (h : Heap) =>
  opK Tryz.prog .slice (Builtin.append_ #[T.sl_uint8, T.sl_uint8] T.sl_uint8 #[(.slice v_89.a v_89.n v_89.c), (.slice v_7.a v_7.n v_7.c)]) (fun (v_90 : Sl) (h : Heap) =>
  callK Tryz.prog .bool F.law26_JournalDoes #[(.slice v_90.a v_90.n v_90.c), (.slice v_87.a v_87.n v_87.c)] (fun (v_91 : Bool) (h : Heap) =>
  if (!v_91) = true then
  R (.bool false) h
  else
  X_40 (IntKind.i64.wrap (s_39 + 1)) h) h) h) h)) h))))) h) h) h))) h) ∧
  (opK Tryz.prog .slice (Instr.buildSlice T.sl_zugzwanglaw26_Deed 2 #[(0, (.agg v_45)), (1, (.agg v_44))]) (fun (v_92 : Sl) (h : Heap) =>
  opK Tryz.prog .slice (Builtin.append_ #[T.sl_uint8, T.sl_uint8] T.sl_uint8 #[(.slice v_46.a v_46.n v_46.c), (.slice v_7.a v_7.n v_7.c)]) (fun (v_93 : Sl) (h : Heap) =>
  opK Tryz.prog .slice (Builtin.append_ #[T.sl_uint8, T.sl_uint8] T.sl_uint8 #[(.slice v_93.a v_93.n v_93.c), (.slice v_43.a v_43.n v_43.c)]) (fun (v_94 : Sl) (h : Heap) =>
  callK Tryz.prog .bool F.law26_JournalDoes #[(.slice v_94.a v_94.n v_94.c), (.slice v_92.a v_92.n v_92.c)] (fun (v_95 : Bool) (h : Heap) =>
  if (!v_95) = true then
  R (.bool false) h
  else
  buildK Tryz.prog (Instr.build T.zugzwanglaw26_Deed #[(0, (.int .i64 3))]) (fun (v_96 : Array Value) =>
  loadAggK (sizeOfT Tryz.prog T.zugzwanglaw26_Deed) h put_12 (fun (v_97 : Array Value) =>
  ((newSlK h 0 #[] T.uint8 (fun (v_98 : Sl) (h : Heap) =>
  ((opK Tryz.prog .slice (Builtin.append_ #[T.sl_uint8, T.sl_uint8] T.sl_uint8 #[(.slice v_98.a v_98.n v_98.c), (.slice v_43.a v_43.n v_43.c)]) (fun (v_99 : Sl) (h : Heap) =>
  stillAggK (sizeOfT Tryz.prog T.zugzwanglaw26_Deed) h put_12 v_97 ∧
  ((opK Tryz.prog .slice (Builtin.append_ #[T.sl_uint8, T.sl_uint8] T.sl_uint8 #[(.slice v_99.a v_99.n v_99.c), (.slice v_7.a v_7.n v_7.c)]) (fun (v_100 : Sl) (h : Heap) =>
  stillAggK (sizeOfT Tryz.prog T.zugzwanglaw26_Deed) h put_12 v_97 ∧
  opK Tryz.prog .slice (Instr.buildSlice T.sl_zugzwanglaw26_Deed 2 #[(0, (.agg v_97)), (1, (.agg v_96))]) (fun (v_101 : Sl) (h : Heap) =>
  callK Tryz.prog .bool F.law26_JournalDoes #[(.slice v_100.a v_100.n v_100.c), (.slice v_101.a v_101.n v_101.c)] (fun (v_102 : Bool) (h : Heap) =>
  if (!v_102) = true then
  R (.bool false) h
  else
  X_40 (IntKind.i64.wrap (s_39 + 1)) h) h) h) h) ∧
  (opK Tryz.prog .slice (Instr.buildSlice T.sl_zugzwanglaw26_Deed 2 #[(0, (.agg v_97)), (1, (.agg v_96))]) (fun (v_103 : Sl) (h : Heap) =>
  opK Tryz.prog .slice (Builtin.append_ #[T.sl_uint8, T.sl_uint8] T.sl_uint8 #[(.slice v_99.a v_99.n v_99.c), (.slice v_7.a v_7.n v_7.c)]) (fun (v_104 : Sl) (h : Heap) =>
  callK Tryz.prog .bool F.law26_JournalDoes #[(.slice v_104.a v_104.n v_104.c), (.slice v_103.a v_103.n v_103.c)] (fun (v_105 : Bool) (h : Heap) =>
  if (!v_105) = true then
  R (.bool false) h
  else
  X_40 (IntKind.i64.wrap (s_39 + 1)) h) h) h) h))) h) ∧
  (opK Tryz.prog .slice (Instr.buildSlice T.sl_zugzwanglaw26_Deed 2 #[(0, (.agg v_97)), (1, (.agg v_96))]) (fun (v_106 : Sl) (h : Heap) =>
  opK Tryz.prog .slice (Builtin.append_ #[T.sl_uint8, T.sl_uint8] T.sl_uint8 #[(.slice v_98.a v_98.n v_98.c), (.slice v_43.a v_43.n v_43.c)]) (fun (v_107 : Sl) (h : Heap) =>
  opK Tryz.prog .slice (Builtin.append_ #[T.sl_uint8, T.sl_uint8] T.sl_uint8 #[(.slice v_107.a v_107.n v_107.c), (.slice v_7.a v_7.n v_7.c)]) (fun (v_108 : Sl) (h : Heap) =>
  callK Tryz.prog .bool F.law26_JournalDoes #[(.slice v_108.a v_108.n v_108.c), (.slice v_106.a v_106.n v_106.c)] (fun (v_109 : Bool) (h : Heap) =>
  if (!v_109) = true then
  R (.bool false) h
  else
  X_40 (IntKind.i64.wrap (s_39 + 1)) h) h) h) h) h)))) ∧
  (opK Tryz.prog .slice (Instr.buildSlice T.sl_zugzwanglaw26_Deed 2 #[(0, (.agg v_97)), (1, (.agg v_96))]) (fun (v_110 : Sl) (h : Heap) =>
  newSlK h 0 #[] T.uint8 (fun (v_111 : Sl) (h : Heap) =>
  opK Tryz.prog .slice (Builtin.append_ #[T.sl_uint8, T.sl_uint8] T.sl_uint8 #[(.slice v_111.a v_111.n v_111.c), (.slice v_43.a v_43.n v_43.c)]) (fun (v_112 : Sl) (h : Heap) =>
  opK Tryz.prog .slice (Builtin.append_ #[T.sl_uint8, T.sl_uint8] T.sl_uint8 #[(.slice v_112.a v_112.n v_112.c), (.slice v_7.a v_7.n v_7.c)]) (fun (v_113 : Sl) (h : Heap) =>
  callK Tryz.prog .bool F.law26_JournalDoes #[(.slice v_113.a v_113.n v_113.c), (.slice v_110.a v_110.n v_110.c)] (fun (v_114 : Bool) (h : Heap) =>
  if (!v_114) = true then
  R (.bool false) h
  else
  X_40 (IntKind.i64.wrap (s_39 + 1)) h) h) h) h)) h))))) h) h) h) h)))) ∧
  (opK Tryz.prog .slice (Instr.buildSlice T.sl_zugzwanglaw26_Deed 2 #[(0, (.agg v_45)), (1, (.agg v_44))]) (fun (v_115 : Sl) (h : Heap) =>
  newSlK h 0 #[] T.uint8 (fun (v_116 : Sl) (h : Heap) =>
  opK Tryz.prog .slice (Builtin.append_ #[T.sl_uint8, T.sl_uint8] T.sl_uint8 #[(.slice v_116.a v_116.n v_116.c), (.slice v_7.a v_7.n v_7.c)]) (fun (v_117 : Sl) (h : Heap) =>
  opK Tryz.prog .slice (Builtin.append_ #[T.sl_uint8, T.sl_uint8] T.sl_uint8 #[(.slice v_117.a v_117.n v_117.c), (.slice v_43.a v_43.n v_43.c)]) (fun (v_118 : Sl) (h : Heap) =>
  callK Tryz.prog .bool F.law26_JournalDoes #[(.slice v_118.a v_118.n v_118.c), (.slice v_115.a v_115.n v_115.c)] (fun (v_119 : Bool) (h : Heap) =>
  if (!v_119) = true then
  R (.bool false) h
  else
  buildK Tryz.prog (Instr.build T.zugzwanglaw26_Deed #[(0, (.int .i64 3))]) (fun (v_120 : Array Value) =>
  loadAggK (sizeOfT Tryz.prog T.zugzwanglaw26_Deed) h put_12 (fun (v_121 : Array Value) =>
  ((newSlK h 0 #[] T.uint8 (fun (v_122 : Sl) (h : Heap) =>
  ((opK Tryz.prog .slice (Builtin.append_ #[T.sl_uint8, T.sl_uint8] T.sl_uint8 #[(.slice v_122.a v_122.n v_122.c), (.slice v_43.a v_43.n v_43.c)]) (fun (v_123 : Sl) (h : Heap) =>
  stillAggK (sizeOfT Tryz.prog T.zugzwanglaw26_Deed) h put_12 v_121 ∧
  ((opK Tryz.prog .slice (Builtin.append_ #[T.sl_uint8, T.sl_uint8] T.sl_uint8 #[(.slice v_123.a v_123.n v_123.c), (.slice v_7.a v_7.n v_7.c)]) (fun (v_124 : Sl) (h : Heap) =>
  stillAggK (sizeOfT Tryz.prog T.zugzwanglaw26_Deed) h put_12 v_121 ∧
  opK Tryz.prog .slice (Instr.buildSlice T.sl_zugzwanglaw26_Deed 2 #[(0, (.agg v_121)), (1, (.agg v_120))]) (fun (v_125 : Sl) (h : Heap) =>
  callK Tryz.prog .bool F.law26_JournalDoes #[(.slice v_124.a v_124.n v_124.c), (.slice v_125.a v_125.n v_125.c)] (fun (v_126 : Bool) (h : Heap) =>
  if (!v_126) = true then
  R (.bool false) h
  else
  X_40 (IntKind.i64.wrap (s_39 + 1)) h) h) h) h) ∧
  (opK Tryz.prog .slice (Instr.buildSlice T.sl_zugzwanglaw26_Deed 2 #[(0, (.agg v_121)), (1, (.agg v_120))]) (fun (v_127 : Sl) (h : Heap) =>
  opK Tryz.prog .slice (Builtin.append_ #[T.sl_uint8, T.sl_uint8] T.sl_uint8 #[(.slice v_123.a v_123.n v_123.c), (.slice v_7.a v_7.n v_7.c)]) (fun (v_128 : Sl) (h : Heap) =>
  callK Tryz.prog .bool F.law26_JournalDoes #[(.slice v_128.a v_128.n v_128.c), (.slice v_127.a v_127.n v_127.c)] (fun (v_129 : Bool) (h : Heap) =>
  if (!v_129) = true then
  R (.bool false) h
  else
  X_40 (IntKind.i64.wrap (s_39 + 1)) h) h) h) h))) h) ∧
  (opK Tryz.prog .slice (Instr.buildSlice T.sl_zugzwanglaw26_Deed 2 #[(0, (.agg v_121)), (1, (.agg v_120))]) (fun (v_130 : Sl) (h : Heap) =>
  opK Tryz.prog .slice (Builtin.append_ #[T.sl_uint8, T.sl_uint8] T.sl_uint8 #[(.slice v_122.a v_122.n v_122.c), (.slice v_43.a v_43.n v_43.c)]) (fun (v_131 : Sl) (h : Heap) =>
  opK Tryz.prog .slice (Builtin.append_ #[T.sl_uint8, T.sl_uint8] T.sl_uint8 #[(.slice v_131.a v_131.n v_131.c), (.slice v_7.a v_7.n v_7.c)]) (fun (v_132 : Sl) (h : Heap) =>
  callK Tryz.prog .bool F.law26_JournalDoes #[(.slice v_132.a v_132.n v_132.c), (.slice v_130.a v_130.n v_130.c)] (fun (v_133 : Bool) (h : Heap) =>
  if (!v_133) = true then
  R (.bool false) h
  else
  X_40 (IntKind.i64.wrap (s_39 + 1)) h) h) h) h) h)))) ∧
  (opK Tryz.prog .slice (Instr.buildSlice T.sl_zugzwanglaw26_Deed 2 #[(0, (.agg v_121)), (1, (.agg v_120))]) (fun (v_134 : Sl) (h : Heap) =>
  newSlK h 0 #[] T.uint8 (fun (v_135 : Sl) (h : Heap) =>
  opK Tryz.prog .slice (Builtin.append_ #[T.sl_uint8, T.sl_uint8] T.sl_uint8 #[(.slice v_135.a v_135.n v_135.c), (.slice v_43.a v_43.n v_43.c)]) (fun (v_136 : Sl) (h : Heap) =>
  opK Tryz.prog .slice (Builtin.append_ #[T.sl_uint8, T.sl_uint8] T.sl_uint8 #[(.slice v_136.a v_136.n v_136.c), (.slice v_7.a v_7.n v_7.c)]) (fun (v_137 : Sl) (h : Heap) =>
  callK Tryz.prog .bool F.law26_JournalDoes #[(.slice v_137.a v_137.n v_137.c), (.slice v_134.a v_134.n v_134.c)] (fun (v_138 : Bool) (h : Heap) =>
  if (!v_138) = true then
  R (.bool false) h
  else
  X_40 (IntKind.i64.wrap (s_39 + 1)) h) h) h) h)) h))))) h) h) h)) h))))) h))
  else
  callK Tryz.prog (Kd.pair .ptr (.int .i64)) F.disk_New #[(.slice none 0 0)] (fun (v_139 : Option Addr × Int) (h : Heap) =>
  callK Tryz.prog .ptr F.tags_New #[(.bool true), (.slice none 0 0)] (fun (v_140 : Option Addr) (h : Heap) =>
  callK Tryz.prog (Kd.pair .ptr (.int .i64)) F.journal_Open #[(.pointer v_140), (.pointer v_139.1)] (fun (v_141 : Option Addr × Int) (h : Heap) =>
  joinW (fun (s_142 : Unit) (h : Heap) =>
  callK Tryz.prog .ptr F.tags_New #[(.bool true), (.slice none 0 0)] (fun (v_143 : Option Addr) (h : Heap) =>
  callK Tryz.prog (Kd.pair .ptr (.int .i64)) F.journal_Open #[(.pointer v_143), (.pointer v_139.1)] (fun (v_144 : Option Addr × Int) (h : Heap) =>
  if (v_144.2 == 0) = true then
  callK Tryz.prog (.int .i64) F.journal_Journal_Len #[(.pointer v_144.1)] (fun (v_145 : Int) (h : Heap) =>
  if (v_145 == 1) = true then
  callK Tryz.prog .bool F.law26_full #[] (fun (v_146 : Bool) (h : Heap) =>
  if v_146 = true then
  callK Tryz.prog .bool F.law26_none #[] (fun (v_147 : Bool) (h : Heap) =>
  if v_147 = true then
  callK Tryz.prog .bool F.law26_awake #[] (fun (v_148 : Bool) (h : Heap) =>
  R (.bool v_148) h) h
  else
  R (.bool false) h) h
  else
  R (.bool false) h) h
  else
  R (.bool false) h) h
  else
  R (.bool false) h) h) h)
  (fun J_149 =>
  if (v_141.2 != 0) = true then
  R (.bool false) h
  else
  ((opK Tryz.prog .slice (Instr.makeSlice T.sl_uint8 (.int .i64 4096) (.int .i64 4096)) (fun (v_150 : Sl) (h : Heap) =>
  opK Tryz.prog .slice (Instr.makeSlice T.sl_uint8 (.int .i64 4097) (.int .i64 4097)) (fun (v_151 : Sl) (h : Heap) =>
  newSlK h 2 #[(.slice v_150.a v_150.n v_150.c), (.slice v_151.a v_151.n v_151.c)] T.sl_uint8 (fun (v_152 : Sl) (h : Heap) =>
  callK Tryz.prog (.int .i64) F.journal_Journal_Put #[(.pointer v_141.1), (.slice v_152.a v_152.n v_152.c)] (fun (v_153 : Int) (h : Heap) =>
  if (v_153 != 2) = true then
  R (.bool false) h
  else
  callK Tryz.prog (.int .i64) F.journal_Journal_Len #[(.pointer v_141.1)] (fun (v_154 : Int) (h : Heap) =>
  if (v_154 != 0) = true then
  R (.bool false) h
  else
  callK Tryz.prog (.int .i64) F.disk_Disk_Len #[(.pointer v_139.1)] (fun (v_155 : Int) (h : Heap) =>
  if (v_155 != 0) = true then
  R (.bool false) h
  else
  opK Tryz.prog .slice (Instr.makeSlice T.sl_uint8 (.int .i64 4096) (.int .i64 4096)) (fun (v_156 : Sl) (h : Heap) =>
  newSlK h 1 #[(.slice v_156.a v_156.n v_156.c)] T.sl_uint8 (fun (v_157 : Sl) (h : Heap) =>
  callK Tryz.prog (.int .i64) F.journal_Journal_Put #[(.pointer v_141.1), (.slice v_157.a v_157.n v_157.c)] (fun (v_158 : Int) (h : Heap) =>
  if (v_158 != 0) = true then
  R (.bool false) h
  else
  callK Tryz.prog (.int .i64) F.journal_Journal_Len #[(.pointer v_141.1)] (fun (v_159 : Int) (h : Heap) =>
  if (v_159 != 1) = true then
  R (.bool false) h
  else
  J_149 () h) h) h)) h) h) h) h)) h) h) ∧
  (opK Tryz.prog .slice (Instr.makeSlice T.sl_uint8 (.int .i64 4097) (.int .i64 4097)) (fun (v_160 : Sl) (h : Heap) =>
  opK Tryz.prog .slice (Instr.makeSlice T.sl_uint8 (.int .i64 4096) (.int .i64 4096)) (fun (v_161 : Sl) (h : Heap) =>
  newSlK h 2 #[(.slice v_161.a v_161.n v_161.c), (.slice v_160.a v_160.n v_160.c)] T.sl_uint8 (fun (v_162 : Sl) (h : Heap) =>
  callK Tryz.prog (.int .i64) F.journal_Journal_Put #[(.pointer v_141.1), (.slice v_162.a v_162.n v_162.c)] (fun (v_163 : Int) (h : Heap) =>
  if (v_163 != 2) = true then
  R (.bool false) h
  else
  callK Tryz.prog (.int .i64) F.journal_Journal_Len #[(.pointer v_141.1)] (fun (v_164 : Int) (h : Heap) =>
  if (v_164 != 0) = true then
  R (.bool false) h
  else
  callK Tryz.prog (.int .i64) F.disk_Disk_Len #[(.pointer v_139.1)] (fun (v_165 : Int) (h : Heap) =>
  if (v_165 != 0) = true then
  R (.bool false) h
  else
  opK Tryz.prog .slice (Instr.makeSlice T.sl_uint8 (.int .i64 4096) (.int .i64 4096)) (fun (v_166 : Sl) (h : Heap) =>
  newSlK h 1 #[(.slice v_166.a v_166.n v_166.c)] T.sl_uint8 (fun (v_167 : Sl) (h : Heap) =>
  callK Tryz.prog (.int .i64) F.journal_Journal_Put #[(.pointer v_141.1), (.slice v_167.a v_167.n v_167.c)] (fun (v_168 : Int) (h : Heap) =>
  if (v_168 != 0) = true then
  R (.bool false) h
  else
  callK Tryz.prog (.int .i64) F.journal_Journal_Len #[(.pointer v_141.1)] (fun (v_169 : Int) (h : Heap) =>
  if (v_169 != 1) = true then
  R (.bool false) h
  else
  J_149 () h) h) h)) h) h) h) h)) h) h)))) h) h) h) 0 h) 0 h))))))) h))))))
def law26_JournalSmall.ann : Ann := (.seq .leaf (.seq .leaf (.seq .leaf (.seq .leaf (.seq .leaf (.seq (.seq .leaf (.block (.loop [(5, (.int .i64))] (.seq (.seq .leaf (.cond .leaf .leaf)) (.seq (.block (.seq (.seq (.any (.loc 0 (.loc 1 (.loc 2 (.st 3 268435440 (.last 4 (.last 5 (.loc 6 (.loc 7 (.locA 8 (.loc 9 (.loc 10 (.loc 11 (.loc 12 (.loc 13 (.loc 14 (.loc 15 (.loc 16 (.loc 17 (.loc 18 (.loc 19 (.loc 20 (.loc 21 (.loc 22 (.loc 23 (.loc 24 (.loc 25 (.loc 26 (.loc 27 .done))))))))))))))))))) (.loc 9 (.loc 10 (.loc 12 (.loc 13 (.st 11 268419072 (.last 14 (.last 15 (.loc 16 (.loc 17 (.loc 18 (.locA 19 (.loc 20 (.loc 21 (.loc 22 (.loc 23 (.loc 24 (.loc 25 (.loc 26 (.loc 27 .done)))))))) (.loc 21 (.loc 22 (.st 20 251658240 (.st 23 251658240 (.last 24 (.last 25 (.loc 26 (.loc 27 .done))))))))))))))))))))))))))))) (.cond (.seq .leaf .leaf) .leaf)) (.seq .leaf (.cond (.seq .leaf (.seq .leaf (.seq .leaf (.cond (.seq .leaf .leaf) .leaf)))) .leaf)))) .leaf))))) (.seq (.seq .leaf (.block (.loop [(7, (.int .i64))] (.seq (.seq .leaf (.cond .leaf .leaf)) (.seq (.block (.seq .leaf (.seq (.any (.loc 1 (.loc 3 (.loc 6 (.loc 7 (.st 5 8388352 (.alt 0 (.alt 2 (.alt 4 (.last 8 (.last 9 (.loc 10 (.loc 11 (.locA 13 (.loc 12 (.loc 14 (.loc 15 (.loc 16 (.loc 17 (.loc 18 (.loc 19 (.loc 20 (.loc 21 (.loc 22 .done)))))))))) (.loc 15 (.loc 18 (.st 17 7864320 (.alt 12 (.alt 14 (.alt 16 (.last 19 (.last 20 (.loc 21 (.loc 22 .done)))) (.last 19 (.last 16 (.last 20 (.loc 21 (.loc 22 .done)))))) (.last 19 (.last 14 (.last 16 (.last 20 (.loc 21 (.loc 22 .done))))))) (.last 19 (.last 12 (.last 14 (.last 16 (.last 20 (.loc 21 (.loc 22 .done)))))))))))))))) (.last 8 (.last 4 (.last 9 (.loc 10 (.loc 11 (.locA 13 (.loc 12 (.loc 14 (.loc 15 (.loc 16 (.loc 17 (.loc 18 (.loc 19 (.loc 20 (.loc 21 (.loc 22 .done)))))))))) (.loc 15 (.loc 18 (.st 17 7864320 (.alt 12 (.alt 14 (.alt 16 (.last 19 (.last 20 (.loc 21 (.loc 22 .done)))) (.last 19 (.last 16 (.last 20 (.loc 21 (.loc 22 .done)))))) (.last 19 (.last 14 (.last 16 (.last 20 (.loc 21 (.loc 22 .done))))))) (.last 19 (.last 12 (.last 14 (.last 16 (.last 20 (.loc 21 (.loc 22 .done)))))))))))))))))) (.last 8 (.last 2 (.last 4 (.last 9 (.loc 10 (.loc 11 (.locA 13 (.loc 12 (.loc 14 (.loc 15 (.loc 16 (.loc 17 (.loc 18 (.loc 19 (.loc 20 (.loc 21 (.loc 22 .done)))))))))) (.loc 15 (.loc 18 (.st 17 7864320 (.alt 12 (.alt 14 (.alt 16 (.last 19 (.last 20 (.loc 21 (.loc 22 .done)))) (.last 19 (.last 16 (.last 20 (.loc 21 (.loc 22 .done)))))) (.last 19 (.last 14 (.last 16 (.last 20 (.loc 21 (.loc 22 .done))))))) (.last 19 (.last 12 (.last 14 (.last 16 (.last 20 (.loc 21 (.loc 22 .done))))))))))))))))))) (.last 8 (.last 0 (.last 2 (.last 4 (.last 9 (.loc 10 (.loc 11 (.locA 13 (.loc 12 (.loc 14 (.loc 15 (.loc 16 (.loc 17 (.loc 18 (.loc 19 (.loc 20 (.loc 21 (.loc 22 .done)))))))))) (.loc 15 (.loc 18 (.st 17 7864320 (.alt 12 (.alt 14 (.alt 16 (.last 19 (.last 20 (.loc 21 (.loc 22 .done)))) (.last 19 (.last 16 (.last 20 (.loc 21 (.loc 22 .done)))))) (.last 19 (.last 14 (.last 16 (.last 20 (.loc 21 (.loc 22 .done))))))) (.last 19 (.last 12 (.last 14 (.last 16 (.last 20 (.loc 21 (.loc 22 .done)))))))))))))))))))))))))) (.cond (.seq .leaf .leaf) .leaf)))) .leaf))))) (.seq .leaf (.seq .leaf (.join [] (.seq (.any (.loc 0 (.loc 1 (.loc 2 (.locA 3 (.loc 4 (.loc 5 (.loc 6 (.loc 7 (.loc 8 (.loc 9 (.loc 10 (.loc 11 (.loc 12 (.loc 13 (.loc 14 (.loc 15 (.loc 16 (.loc 17 (.loc 18 (.loc 19 (.loc 20 (.loc 21 (.loc 22 (.loc 23 (.loc 24 (.loc 25 (.loc 26 (.loc 27 (.loc 28 (.loc 29 (.loc 30 (.loc 31 .done)))))))))))))))))))))))))))) (.alt 4 (.last 5 (.last 6 (.last 7 (.loc 8 (.loc 9 (.loc 10 (.locA 11 (.loc 12 (.loc 13 (.loc 14 (.loc 15 (.loc 16 (.loc 17 (.loc 18 (.loc 19 (.loc 20 (.loc 21 (.loc 22 (.loc 23 (.loc 24 (.loc 25 (.loc 26 (.loc 27 (.loc 28 (.loc 29 (.loc 30 (.loc 31 .done)))))))))))))))))))) (.last 12 (.loc 13 (.loc 14 (.loc 15 (.locA 16 (.loc 17 (.loc 18 (.loc 19 (.loc 20 (.loc 21 (.loc 22 (.loc 23 (.loc 24 (.loc 25 (.loc 26 (.loc 27 (.loc 28 (.loc 29 (.loc 30 (.loc 31 .done))))))))))))))) (.last 17 (.loc 18 (.loc 19 (.loc 20 (.locA 21 (.loc 22 (.loc 23 (.loc 24 (.loc 25 (.loc 26 (.loc 27 (.loc 28 (.loc 29 (.loc 30 (.loc 31 .done)))))))))) (.last 22 (.last 23 (.last 24 (.loc 25 (.loc 26 (.loc 27 (.locA 28 (.loc 29 (.loc 30 (.loc 31 .done))) (.last 29 (.loc 30 (.loc 31 .done))))))))))))))))))))))))))) (.last 5 (.last 4 (.last 6 (.last 7 (.loc 8 (.loc 9 (.loc 10 (.locA 11 (.loc 12 (.loc 13 (.loc 14 (.loc 15 (.loc 16 (.loc 17 (.loc 18 (.loc 19 (.loc 20 (.loc 21 (.loc 22 (.loc 23 (.loc 24 (.loc 25 (.loc 26 (.loc 27 (.loc 28 (.loc 29 (.loc 30 (.loc 31 .done)))))))))))))))))))) (.last 12 (.loc 13 (.loc 14 (.loc 15 (.locA 16 (.loc 17 (.loc 18 (.loc 19 (.loc 20 (.loc 21 (.loc 22 (.loc 23 (.loc 24 (.loc 25 (.loc 26 (.loc 27 (.loc 28 (.loc 29 (.loc 30 (.loc 31 .done))))))))))))))) (.last 17 (.loc 18 (.loc 19 (.loc 20 (.locA 21 (.loc 22 (.loc 23 (.loc 24 (.loc 25 (.loc 26 (.loc 27 (.loc 28 (.loc 29 (.loc 30 (.loc 31 .done)))))))))) (.last 22 (.last 23 (.last 24 (.loc 25 (.loc 26 (.loc 27 (.locA 28 (.loc 29 (.loc 30 (.loc 31 .done))) (.last 29 (.loc 30 (.loc 31 .done)))))))))))))))))))))))))))))))))) (.cond (.seq .leaf .leaf) .leaf)) (.seq .leaf (.seq .leaf .leaf))))))))))))
theorem law26_JournalSmall.eq  (R : Value → Heap → Prop) (h : Heap) : law26_JournalSmall.body  R h = evFn Tryz.prog Tryz.f4 law26_JournalSmall.ann [] R h := by kernel_rfl
theorem law26_JournalSmall.calls  {R : Value → Heap → Prop} {h : Heap} (H : law26_JournalSmall.body  R h) : HC Tryz.prog F.law26_JournalSmall #[] R h :=
  evFn_sound mixed Tryz.func4 (by kernel_rfl) (law26_JournalSmall.eq  R h ▸ H)

end Go.Proofs.YtgongoaiflphaaaGreat
