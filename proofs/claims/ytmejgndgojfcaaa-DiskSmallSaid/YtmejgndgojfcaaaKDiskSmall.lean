/-
  The law DiskSmall: what it answers.
-/
import Derived.Test.YtmejgndgojfcaaaKDiskDoes
set_option linter.unusedSimpArgs false
set_option linter.unusedVariables false
namespace Go.Proofs.Ytmejgndgojfcaaa
open Go Go.Ev

/-- The address of an element; it is loaded later. -/
theorem idxAt {sz : Nat} {h : Heap} {s : Sl} {vs : List Value} {i : Int} {K : Addr → Prop} (r : Rd 1 h s vs) (hsz : sz = 1) (h0 : 0 ≤ i) (hi : i.toNat < vs.length)
    (hK : ∀ a : Addr, (∀ (h' : Heap) (k : Kd) (x : k.T) (L : k.T → Prop), Rd 1 h' s vs → vs[i.toNat]? = some (k.inj x) → L x → loadK k h' (some a) L) → K a) : idxK s i sz K := by
  subst hsz
  rcases r.2 with hn | ⟨b, o, c, e, fz, ha, hb, hc⟩
  · subst hn; simp at hi
  · refine ⟨_, ha, ⟨h0, by rw [r.len]; omega⟩, ?_⟩
    rw [Nat.mul_one, addr_add]
    refine hK _ ?_
    intro h' k x L r' hx hL
    rcases r'.2 with hn | ⟨b', o', c', e', fz', ha', hb', hc'⟩
    · subst hn; simp at hi
    · rw [ha] at ha'
      cases ha'
      exact ⟨b, o + i.toNat, c', e', fz', x, rfl, hb', by rw [hc' _ hi]; exact hx, hL⟩

/-- No disk: none at all, or a zero one. -/
def NoDisk (g : GH) (c : Nat) (d : Option Addr) : Prop := d = none ∨ ∃ p, d = some ⟨p, 0, none⟩ ∧ BlkC g c p #[.slice none 0 0, .int .i64 0, .bool false] T.disk_Disk
theorem NoDisk.mv {K : List Nat} {g g' : GH} {c : Nat} {d : Option Addr} (r : NoDisk g c d) (m : Mv K g g') (h : c ∉ K) : NoDisk g' c d := r.imp id fun ⟨p, e, b⟩ => ⟨p, e, b.mv m h⟩
theorem noThere {g : GH} {c : Nat} {d : Option Addr} (r : NoDisk g c d) {R : Value → Heap → Prop} (H : R (.bool false) g.h) : HC Try.prog F.disk_Disk_there #[.pointer d] R g.h := by
  refine disk_Disk_there.calls ?_
  unfold disk_Disk_there.body
  rcases r with rfl | ⟨p, rfl, hb⟩
  · try simp only [derefK_some, fldK_some, Nat.zero_add, Nat.add_zero, Nat.reduceAdd, inj_int, inj_bool, inj_str, inj_ptr, inj_map, inj_slice, exists_eq_left, List.getElem?_toArray, List.getElem?_cons_zero, List.getElem?_cons_succ, Option.isNone_some, Option.isNone_none, Bool.not_true, Bool.not_false, Bool.false_eq_true, if_true, if_false, reduceIte, eq_self, not_true_eq_false, not_false_eq_true, bne_self_eq_false, beq_self_eq_true, decide_true, decide_false, decide_eq_true_eq, beq_iff_eq, bne_iff_ne, ne_eq]
    exact H
  · try simp only [derefK_some, fldK_some, Nat.zero_add, Nat.add_zero, Nat.reduceAdd, inj_int, inj_bool, inj_str, inj_ptr, inj_map, inj_slice, exists_eq_left, List.getElem?_toArray, List.getElem?_cons_zero, List.getElem?_cons_succ, Option.isNone_some, Option.isNone_none, Bool.not_true, Bool.not_false, Bool.false_eq_true, if_true, if_false, reduceIte, eq_self, not_true_eq_false, not_false_eq_true, bne_self_eq_false, beq_self_eq_true, decide_true, decide_false, decide_eq_true_eq, beq_iff_eq, bne_iff_ne, ne_eq, loadK_C hb]
    exact H
theorem noWrite {g : GH} {c : Nat} {d : Option Addr} (r : NoDisk g c d) (v : Sl) {R : Value → Heap → Prop} (H : R (.int .i64 1) g.h) : HC Try.prog F.disk_Disk_Write #[.pointer d, .slice v.a v.n v.c] R g.h := by
  refine disk_Disk_Write.calls (rows1 := v) ?_
  unfold disk_Disk_Write.body
  exact noThere r ⟨_, rfl, by try simp only [derefK_some, fldK_some, Nat.zero_add, Nat.add_zero, Nat.reduceAdd, inj_int, inj_bool, inj_str, inj_ptr, inj_map, inj_slice, exists_eq_left, List.getElem?_toArray, List.getElem?_cons_zero, List.getElem?_cons_succ, Option.isNone_some, Option.isNone_none, Bool.not_true, Bool.not_false, Bool.false_eq_true, if_true, if_false, reduceIte, eq_self, not_true_eq_false, not_false_eq_true, bne_self_eq_false, beq_self_eq_true, decide_true, decide_false, decide_eq_true_eq, beq_iff_eq, bne_iff_ne, ne_eq]; exact H⟩
theorem noSync {g : GH} {c : Nat} {d : Option Addr} (r : NoDisk g c d) {R : Value → Heap → Prop} (H : R (.int .i64 1) g.h) : HC Try.prog F.disk_Disk_Sync #[.pointer d] R g.h := by
  refine disk_Disk_Sync.calls ?_
  unfold disk_Disk_Sync.body
  exact noThere r ⟨_, rfl, by try simp only [derefK_some, fldK_some, Nat.zero_add, Nat.add_zero, Nat.reduceAdd, inj_int, inj_bool, inj_str, inj_ptr, inj_map, inj_slice, exists_eq_left, List.getElem?_toArray, List.getElem?_cons_zero, List.getElem?_cons_succ, Option.isNone_some, Option.isNone_none, Bool.not_true, Bool.not_false, Bool.false_eq_true, if_true, if_false, reduceIte, eq_self, not_true_eq_false, not_false_eq_true, bne_self_eq_false, beq_self_eq_true, decide_true, decide_false, decide_eq_true_eq, beq_iff_eq, bne_iff_ne, ne_eq]; exact H⟩
theorem noFall {g : GH} {c : Nat} {d : Option Addr} (r : NoDisk g c d) (k : Int) {R : Value → Heap → Prop} (H : R (.int .i64 1) g.h) : HC Try.prog F.disk_Disk_Fall #[.pointer d, .int .i64 k] R g.h := by
  refine disk_Disk_Fall.calls ?_
  unfold disk_Disk_Fall.body
  exact noThere r ⟨_, rfl, by try simp only [derefK_some, fldK_some, Nat.zero_add, Nat.add_zero, Nat.reduceAdd, inj_int, inj_bool, inj_str, inj_ptr, inj_map, inj_slice, exists_eq_left, List.getElem?_toArray, List.getElem?_cons_zero, List.getElem?_cons_succ, Option.isNone_some, Option.isNone_none, Bool.not_true, Bool.not_false, Bool.false_eq_true, if_true, if_false, reduceIte, eq_self, not_true_eq_false, not_false_eq_true, bne_self_eq_false, beq_self_eq_true, decide_true, decide_false, decide_eq_true_eq, beq_iff_eq, bne_iff_ne, ne_eq]; exact H⟩
theorem noCut {g : GH} {c : Nat} {d : Option Addr} (r : NoDisk g c d) (k : Int) {R : Value → Heap → Prop} (H : R (.int .i64 1) g.h) : HC Try.prog F.disk_Disk_Cut #[.pointer d, .int .i64 k] R g.h := by
  refine disk_Disk_Cut.calls ?_
  unfold disk_Disk_Cut.body
  exact noThere r ⟨_, rfl, by try simp only [derefK_some, fldK_some, Nat.zero_add, Nat.add_zero, Nat.reduceAdd, inj_int, inj_bool, inj_str, inj_ptr, inj_map, inj_slice, exists_eq_left, List.getElem?_toArray, List.getElem?_cons_zero, List.getElem?_cons_succ, Option.isNone_some, Option.isNone_none, Bool.not_true, Bool.not_false, Bool.false_eq_true, if_true, if_false, reduceIte, eq_self, not_true_eq_false, not_false_eq_true, bne_self_eq_false, beq_self_eq_true, decide_true, decide_false, decide_eq_true_eq, beq_iff_eq, bne_iff_ne, ne_eq]; exact H⟩
theorem noBytes {g : GH} {c : Nat} {d : Option Addr} (r : NoDisk g c d) {R : Value → Heap → Prop} (H : R (.slice none 0 0) g.h) : HC Try.prog F.disk_Disk_Bytes #[.pointer d] R g.h := by
  refine disk_Disk_Bytes.calls ?_
  unfold disk_Disk_Bytes.body
  exact noThere r ⟨_, rfl, by try simp only [derefK_some, fldK_some, Nat.zero_add, Nat.add_zero, Nat.reduceAdd, inj_int, inj_bool, inj_str, inj_ptr, inj_map, inj_slice, exists_eq_left, List.getElem?_toArray, List.getElem?_cons_zero, List.getElem?_cons_succ, Option.isNone_some, Option.isNone_none, Bool.not_true, Bool.not_false, Bool.false_eq_true, if_true, if_false, reduceIte, eq_self, not_true_eq_false, not_false_eq_true, bne_self_eq_false, beq_self_eq_true, decide_true, decide_false, decide_eq_true_eq, beq_iff_eq, bne_iff_ne, ne_eq]; exact H⟩
theorem noLen {g : GH} {c : Nat} {d : Option Addr} (r : NoDisk g c d) {R : Value → Heap → Prop} (H : R (.int .i64 0) g.h) : HC Try.prog F.disk_Disk_Len #[.pointer d] R g.h := by
  refine disk_Disk_Len.calls ?_
  unfold disk_Disk_Len.body
  exact noThere r ⟨_, rfl, by try simp only [derefK_some, fldK_some, Nat.zero_add, Nat.add_zero, Nat.reduceAdd, inj_int, inj_bool, inj_str, inj_ptr, inj_map, inj_slice, exists_eq_left, List.getElem?_toArray, List.getElem?_cons_zero, List.getElem?_cons_succ, Option.isNone_some, Option.isNone_none, Bool.not_true, Bool.not_false, Bool.false_eq_true, if_true, if_false, reduceIte, eq_self, not_true_eq_false, not_false_eq_true, bne_self_eq_false, beq_self_eq_true, decide_true, decide_false, decide_eq_true_eq, beq_iff_eq, bne_iff_ne, ne_eq]; exact H⟩
theorem noSynced {g : GH} {c : Nat} {d : Option Addr} (r : NoDisk g c d) {R : Value → Heap → Prop} (H : R (.int .i64 0) g.h) : HC Try.prog F.disk_Disk_Synced #[.pointer d] R g.h := by
  refine disk_Disk_Synced.calls ?_
  unfold disk_Disk_Synced.body
  exact noThere r ⟨_, rfl, by try simp only [derefK_some, fldK_some, Nat.zero_add, Nat.add_zero, Nat.reduceAdd, inj_int, inj_bool, inj_str, inj_ptr, inj_map, inj_slice, exists_eq_left, List.getElem?_toArray, List.getElem?_cons_zero, List.getElem?_cons_succ, Option.isNone_some, Option.isNone_none, Bool.not_true, Bool.not_false, Bool.false_eq_true, if_true, if_false, reduceIte, eq_self, not_true_eq_false, not_false_eq_true, bne_self_eq_false, beq_self_eq_true, decide_true, decide_false, decide_eq_true_eq, beq_iff_eq, bne_iff_ne, ne_eq]; exact H⟩
theorem noCopy {g : GH} {c : Nat} {d : Option Addr} (r : NoDisk g c d) {R : Value → Heap → Prop} (H : R (.pointer none) g.h) : HC Try.prog F.disk_Disk_Copy #[.pointer d] R g.h := by
  refine disk_Disk_Copy.calls ?_
  unfold disk_Disk_Copy.body
  exact noThere r ⟨_, rfl, by try simp only [derefK_some, fldK_some, Nat.zero_add, Nat.add_zero, Nat.reduceAdd, inj_int, inj_bool, inj_str, inj_ptr, inj_map, inj_slice, exists_eq_left, List.getElem?_toArray, List.getElem?_cons_zero, List.getElem?_cons_succ, Option.isNone_some, Option.isNone_none, Bool.not_true, Bool.not_false, Bool.false_eq_true, if_true, if_false, reduceIte, eq_self, not_true_eq_false, not_false_eq_true, bne_self_eq_false, beq_self_eq_true, decide_true, decide_false, decide_eq_true_eq, beq_iff_eq, bne_iff_ne, ne_eq]; exact H⟩

theorem build_DiskZ (w : World) : (Instr.build T.disk_Disk #[]).run Try.prog w = .ok (.agg #[.slice none 0 0, .int .i64 0, .bool false]) w := by kernel_rfl
theorem build_DeedAll (a b : Int) (v : Sl) (w : World) : (Instr.build T.zugzwanglaw25_Deed #[(0, .int .i64 a), (1, .int .i64 b), (2, .slice v.a v.n v.c)]).run Try.prog w = .ok (.agg #[.int .i64 a, .int .i64 b, slV v]) w := by kernel_rfl
theorem build_DeedFall (a b : Int) (w : World) : (Instr.build T.zugzwanglaw25_Deed #[(0, .int .i64 a), (1, .int .i64 b)]).run Try.prog w = .ok (.agg #[.int .i64 a, .int .i64 b, slV ⟨none, 0, 0⟩]) w := by kernel_rfl
theorem buildSl_Deed5 (a1 b1 a2 b2 a3 b3 a4 b4 a5 b5 : Int) (v1 v2 v3 v4 v5 : Sl) (w : World) : (Instr.buildSlice T.sl_zugzwanglaw25_Deed 5 #[(0, .agg #[.int .i64 a1, .int .i64 b1, slV v1]), (1, .agg #[.int .i64 a2, .int .i64 b2, slV v2]), (2, .agg #[.int .i64 a3, .int .i64 b3, slV v3]), (3, .agg #[.int .i64 a4, .int .i64 b4, slV v4]), (4, .agg #[.int .i64 a5, .int .i64 b5, slV v5])]).run Try.prog w =
    .ok (.slice (some ⟨w.heap.size, 0, none⟩) 5 5) { w with heap := w.heap.push (.cells #[.int .i64 a1, .int .i64 b1, slV v1, .int .i64 a2, .int .i64 b2, slV v2, .int .i64 a3, .int .i64 b3, slV v3, .int .i64 a4, .int .i64 b4, slV v4, .int .i64 a5, .int .i64 b5, slV v5] T.zugzwanglaw25_Deed (0, 0)) } := by kernel_rfl

def ends : List Int := [-9223372036854775808, -1, 0, 1, 2, 3, 4, 5, 9223372036854775807]
theorem ends_ok : ∀ n ∈ ends, -9223372036854775808 ≤ n ∧ n ≤ 9223372036854775807 := by decide
def rowsOf : List (List (List Int)) := [[], [[1]], [[2, 3], [], [4]], [[]]]

theorem total_two (a b : List Int) : total [a, b] = a.length + b.length := by simp [total]
theorem total_one (a : List Int) : total [a] = a.length := by simp [total]

set_option maxRecDepth 100000 in
set_option maxHeartbeats 1000000 in
theorem DiskSmall_spec (g : GH) {R : Value → Heap → Prop} (H : ∀ g' : GH, Mv [] g g' → R (.bool true) g'.h) : HC Try.prog F.law25_DiskSmall #[] R g.h := by
  refine law25_DiskSmall.calls ?_
  unfold law25_DiskSmall.body
  have fin : ∀ (K : List Nat) (q : GH), Mv K g.base q → 0 ∉ K → R (.bool true) q.h := fun K q m h0 => H (g.via q fun _ => 0) (m.via h0 _)
  have m := Mv.refl [1, 2] g.base
  have step : ∀ {a b : GH}, Mv [1, 2] g.base a → Mv [] a b → Mv [1, 2] g.base b := fun m n => m.step n (by simp)
  refine newSl_C g.base 0 rfl fun s1 q1 m1 o1 n1 c1 => ?_
  refine newSl_C q1 0 rfl fun s2 q2 m2 o2 n2 c2 => ?_
  refine newSl_C q2 0 rfl fun s3 q3 m3 o3 n3 c3 => ?_
  refine newSl_C q3 0 rfl fun s4 q4 m4 o4 n4 c4 => ?_
  refine newSl_C q4 0 rfl fun s5 q5 m5 o5 n5 c5 => ?_
  refine newSl_C q5 0 rfl fun s6 q6 m6 o6 n6 c6 => ?_
  refine newSl_C q6 0 rfl fun s7 q7 m7 o7 n7 c7 => ?_
  refine newSl_C q7 0 rfl fun s8 q8 m8 o8 n8 c8 => ?_
  replace m := step (step (step (step (step (step (step (step m m1) m2) m3) m4) m5) m6) m7) m8
  have m28 : Mv [] q2 q8 := ((((((Mv.refl [] q2).step m3 (by simp)).step m4 (by simp)).step m5 (by simp)).step m6 (by simp)).step m7 (by simp)).step m8 (by simp)
  have m18 : Mv [] q1 q8 := (m2.step m28 (by simp))
  have m38 : Mv [] q3 q8 := ((((m4).step m5 (by simp)).step m6 (by simp)).step m7 (by simp)).step m8 (by simp)
  have m48 : Mv [] q4 q8 := (((m5).step m6 (by simp)).step m7 (by simp)).step m8 (by simp)
  have m58 : Mv [] q5 q8 := ((m6).step m7 (by simp)).step m8 (by simp)
  have m68 : Mv [] q6 q8 := m7.step m8 (by simp)
  have i1 : SlC q8 0 (.int .i64) s1 ends := SlC.ofInts (o1.rd.mv m18 (by simp)) (by omega) (by decide) ends_ok
  have r2 : SlC q8 0 (.int .u8) s2 [1] := SlC.ofInts (o2.rd.mv m28 (by simp)) (by omega) (by decide) (by decide)
  have r3 : SlC q8 0 (.sl (.int .u8)) s3 [[1]] := SlC.ofSls (sls := [s2]) (o3.rd.mv m38 (by simp)) (by omega) (by decide) rfl (all2_cons r2 all2_nil)
  have r4 : SlC q8 0 (.int .u8) s4 [2, 3] := SlC.ofInts (o4.rd.mv m48 (by simp)) (by omega) (by decide) (by decide)
  have r5 : SlC q8 0 (.int .u8) s5 [4] := SlC.ofInts (o5.rd.mv m58 (by simp)) (by omega) (by decide) (by decide)
  have r6 : SlC q8 0 (.sl (.int .u8)) s6 [[2, 3], [], [4]] := SlC.ofSls (sls := [s4, ⟨none, 0, 0⟩, s5]) (o6.rd.mv m68 (by simp)) (by omega) (by decide) rfl (all2_cons r4 (all2_cons (SlC.nil _ _ _) (all2_cons r5 all2_nil)))
  have r7 : SlC q8 0 (.sl (.int .u8)) s7 [[]] := SlC.ofSls (sls := [⟨none, 0, 0⟩]) (o7.rd.mv m8 (by simp)) (by omega) (by decide) rfl (all2_cons (SlC.nil _ _ _) all2_nil)
  have r8 : SlC q8 0 (.sl (.sl (.int .u8))) s8 rowsOf := SlC.ofSls (sls := [⟨none, 0, 0⟩, s3, s6, s7]) o8.rd (by omega) (by decide) rfl (all2_cons (SlC.nil _ _ _) (all2_cons r3 (all2_cons r6 (all2_cons r7 all2_nil))))
  clear r2 r3 r4 r5 r6 r7 o1 o2 o3 o4 o5 o6 o7 o8 m1 m2 m3 m4 m5 m6 m7 m8 m28 m18 m38 m48 m58 m68
  have hlE : ends.length = 9 := rfl
  have hlR : rowsOf.length = 4 := rfl
  refine loopW_rule (fun st h' => ∃ (i : Nat) (q : GH), i ≤ 2500 ∧ st = (i : Int) ∧ h' = q.h ∧ Mv [] q8 q ∧ Mv [1, 2] g.base q) (fun st => 2500 - st.toNat) ⟨0, q8, by omega, rfl, rfl, Mv.refl _ _, m⟩ ?_
  rintro X _ _ ⟨i, q, hi, rfl, rfl, mq, m⟩ hX
  replace i1 := i1.mv mq (by simp)
  replace r8 := r8.mv mq (by simp)
  try simp only [derefK_some, fldK_some, Nat.zero_add, Nat.add_zero, Nat.reduceAdd, inj_int, inj_bool, inj_str, inj_ptr, inj_map, inj_slice, exists_eq_left, List.getElem?_toArray, List.getElem?_cons_zero, List.getElem?_cons_succ, Option.isNone_some, Option.isNone_none, Bool.not_true, Bool.not_false, Bool.false_eq_true, if_true, if_false, reduceIte, eq_self, not_true_eq_false, not_false_eq_true, bne_self_eq_false, beq_self_eq_true, decide_true, decide_false, decide_eq_true_eq, beq_iff_eq, bne_iff_ne, ne_eq]
  by_cases hlt : i < 2500
  · rw [if_pos (by omega)]
    have hz8 : sizeOfT Try.prog T.int = (Sh.int .i64).size := by kernel_rfl
    have hzR : sizeOfT Try.prog T.sl_sl_uint8 = (Sh.sl (Sh.sl (Sh.int .u8))).size := by kernel_rfl
    obtain ⟨a5, ha5, ea5⟩ := tmod_ex (i : Int) (by omega) 5 (by omega)
    obtain ⟨a9, ha9, ea9⟩ := tmod_ex (i : Int) (by omega) 9 (by omega)
    obtain ⟨a4, ha4, ea4⟩ := tmod_ex (i : Int) (by omega) 4 (by omega)
    obtain ⟨d5, _, ed5⟩ := tdiv_ex i (by omega) 5 (by omega)
    obtain ⟨d4, _, ed4⟩ := tdiv_ex i (by omega) 4 (by omega)
    obtain ⟨d25, _, ed25⟩ := tdiv_ex i (by omega) 25 (by omega)
    obtain ⟨d7, _, ed7⟩ := tdiv_ex i (by omega) 7 (by omega)
    obtain ⟨d3, _, ed3⟩ := tdiv_ex i (by omega) 3 (by omega)
    obtain ⟨d125, _, ed125⟩ := tdiv_ex i (by omega) 125 (by omega)
    obtain ⟨d11, _, ed11⟩ := tdiv_ex i (by omega) 11 (by omega)
    obtain ⟨d13, _, ed13⟩ := tdiv_ex i (by omega) 13 (by omega)
    obtain ⟨d6, _, ed6⟩ := tdiv_ex i (by omega) 6 (by omega)
    obtain ⟨b5, hb5, eb5⟩ := tmod_ex (d5 : Int) (by omega) 5 (by omega)
    obtain ⟨b9, hb9, eb9⟩ := tmod_ex (d4 : Int) (by omega) 9 (by omega)
    obtain ⟨c5, hc5, ec5⟩ := tmod_ex (d25 : Int) (by omega) 5 (by omega)
    obtain ⟨c9, hc9, ec9⟩ := tmod_ex (d7 : Int) (by omega) 9 (by omega)
    obtain ⟨c4, hc4, ec4⟩ := tmod_ex (d3 : Int) (by omega) 4 (by omega)
    obtain ⟨e5, he5, ee5⟩ := tmod_ex (d125 : Int) (by omega) 5 (by omega)
    obtain ⟨e9, he9, ee9⟩ := tmod_ex (d11 : Int) (by omega) 9 (by omega)
    obtain ⟨f9, hf9, ef9⟩ := tmod_ex (d13 : Int) (by omega) 9 (by omega)
    obtain ⟨f4, hf4, ef4⟩ := tmod_ex (d6 : Int) (by omega) 4 (by omega)
    simp only [Int.cast_ofNat_Int] at ea5 ea9 ea4 ed5 ed4 ed25 ed7 ed3 ed125 ed11 ed13 ed6 eb5 eb9 ec5 ec9 ec4 ee5 ee9 ef9 ef4
    simp only [ea5, ea9, ea4, ed5, ed4, ed25, ed7, ed3, ed125, ed11, ed13, ed6, eb5, eb9, ec5, ec9, ec4, ee5, ee9, ef9, ef4]
    refine ⟨by decide, by decide, ?_⟩
    refine i1.idx hz8 (by decide) (by omega) fun x1 y1 k1 cc1 l1 => ?_
    refine ⟨by decide, ?_⟩
    refine r8.idx hzR (by decide) (by omega) fun x2 y2 k2 cc2 l2 => ?_
    refine ⟨by decide, by decide, by decide, by decide, ?_⟩
    refine i1.idx hz8 (by decide) (by omega) fun x3 y3 k3 cc3 l3 => ?_
    refine r8.idx (i := 2) hzR (by decide) (by omega) fun x4 y4 k4 cc4 l4 => ?_
    refine ⟨by decide, by decide, by decide, by decide, ?_⟩
    refine i1.idx hz8 (by decide) (by omega) fun x5 y5 k5 cc5 l5 => ?_
    refine ⟨by decide, by decide, ?_⟩
    refine r8.idx hzR (by decide) (by omega) fun x6 y6 k6 cc6 l6 => ?_
    refine ⟨by decide, by decide, by decide, by decide, ?_⟩
    refine i1.idx hz8 (by decide) (by omega) fun x7 y7 k7 cc7 l7 => ?_
    refine r8.idx (i := 1) hzR (by decide) (by omega) fun x8 y8 k8 cc8 l8 => ?_
    refine ⟨by decide, by decide, ?_⟩
    refine i1.idx hz8 (by decide) (by omega) fun x9 y9 k9 cc9 l9 => ?_
    obtain ⟨rfl, l1⟩ := l1
    obtain ⟨rfl, l3⟩ := l3
    obtain ⟨rfl, l5⟩ := l5
    obtain ⟨rfl, l7⟩ := l7
    obtain ⟨rfl, l9⟩ := l9
    obtain ⟨v2, rfl, l2⟩ := LayC.sl l2
    obtain ⟨v4, rfl, l4⟩ := LayC.sl l4
    obtain ⟨v6, rfl, l6⟩ := LayC.sl l6
    obtain ⟨v8, rfl, l8⟩ := LayC.sl l8
    refine loadK_cells cc1 (k := .int .i64) (j := 0) _ rfl rfl ?_
    refine loadK_cells cc2 (k := .slice) (j := 0) v2 rfl rfl ?_
    refine ⟨_, build_DeedAll _ _ v2, ?_⟩
    refine loadK_cells cc3 (k := .int .i64) (j := 0) _ rfl rfl ?_
    refine loadK_cells cc4 (k := .slice) (j := 0) v4 rfl rfl ?_
    refine ⟨_, build_DeedAll _ _ v4, ?_⟩
    refine loadK_cells cc5 (k := .int .i64) (j := 0) _ rfl rfl ?_
    refine loadK_cells cc6 (k := .slice) (j := 0) v6 rfl rfl ?_
    refine ⟨_, build_DeedAll _ _ v6, ?_⟩
    refine loadK_cells cc7 (k := .int .i64) (j := 0) _ rfl rfl ?_
    refine loadK_cells cc8 (k := .slice) (j := 0) v8 rfl rfl ?_
    refine ⟨_, build_DeedAll _ _ v8, ?_⟩
    refine loadK_cells cc9 (k := .int .i64) (j := 0) _ rfl rfl ?_
    refine ⟨_, build_DeedFall _ _, ?_⟩
    refine buildSl_C (e := T.zugzwanglaw25_Deed) (sz := 3) q 0 _ (buildSl_Deed5 _ _ _ _ _ _ _ _ _ _ _ _ _ _ _) rfl fun s q1 m1 o1 hn hc => ?_
    have ls : SlC q1 0 ShDeed s [(_, _, _, ()), (_, _, _, ()), (_, _, _, ()), (_, _, _, ()), (_, _, [], ())] := SlC.of
      [[_, _, slV v2], [_, _, slV v4], [_, _, slV v6], [_, _, slV v8], [_, _, slV ⟨none, 0, 0⟩]] (by omega) (by simp [hn]) (by simp [hn]) (by omega) o1.rd
      (all2_cons (LayC.mkDeed (l2.mv m1 (by simp)) _ _ (by omega) l1) (all2_cons (LayC.mkDeed (l4.mv m1 (by simp)) _ _ (by omega) l3) (all2_cons (LayC.mkDeed (l6.mv m1 (by simp)) _ _ (by omega) l5)
        (all2_cons (LayC.mkDeed (l8.mv m1 (by simp)) _ _ (by omega) l7) (all2_cons (LayC.mkDeed (SlC.nil _ _ _) _ _ (by omega) l9) all2_nil)))))
    replace r8 := r8.mv m1 (by simp)
    refine ⟨by decide, by decide, ?_⟩
    refine r8.idx hzR (by decide) (by omega) fun x10 y10 k10 cc10 l10 => ?_
    obtain ⟨v10, rfl, l10⟩ := LayC.sl l10
    refine loadK_cells cc10 (k := .slice) (j := 0) v10 rfl rfl ?_
    refine DiskDoes_spec q1 v10 s _ _ l10 ls fun q2 m2 => ⟨_, rfl, ?_⟩
    try simp only [derefK_some, fldK_some, Nat.zero_add, Nat.add_zero, Nat.reduceAdd, inj_int, inj_bool, inj_str, inj_ptr, inj_map, inj_slice, exists_eq_left, List.getElem?_toArray, List.getElem?_cons_zero, List.getElem?_cons_succ, Option.isNone_some, Option.isNone_none, Bool.not_true, Bool.not_false, Bool.false_eq_true, if_true, if_false, reduceIte, eq_self, not_true_eq_false, not_false_eq_true, bne_self_eq_false, beq_self_eq_true, decide_true, decide_false, decide_eq_true_eq, beq_iff_eq, bne_iff_ne, ne_eq]
    rw [wrapSucc (by omega)]
    exact hX _ _ ⟨i + 1, q2, by omega, rfl, rfl, (mq.step m1 (by simp)).step m2 (by simp), (m.step m1 (by simp)).step m2 (by simp)⟩ (by simp; omega)
  · rw [if_neg (by omega)]
    clear hX i1 r8
    obtain ⟨N, hN⟩ : ∃ N : Nat, N = 1048576 := ⟨_, rfl⟩
    have e : (1048576 : Int) = (N : Int) := by omega
    rw [e]
    refine make_C (e := T.uint8) (by_ := 1) (z := .int .u8 0) (by kernel_rfl) (by kernel_rfl) rfl (by omega) q 0 (Nat.le_refl N) (by omega) fun s1 q1 m1 o1 n1 c1 _ => ?_
    replace m := m.step m1 (by simp)
    have r1 : RdC 1 q1 0 s1 ((List.replicate N (0 : Int)).map byV) := by rw [List.map_replicate]; exact o1.rd
    have hl : (List.replicate N (0 : Int)).length = N := List.length_replicate
    generalize List.replicate N (0 : Int) = full at r1 hl
    clear o1
    refine newSl_C q1 0 rfl fun s2 q2 m2 o2 n2 c2 => ?_
    replace m := m.step m2 (by simp)
    replace r1 := r1.mv m2 (by simp)
    have w2 : RowsC q2 0 s2 [full, []] := RowsC.two (b := ⟨none, 0, 0⟩) o2.rd r1 (by omega) (RdC.nil _ _ _ _ _) (Nat.le_refl _)
    refine NewDisk_spec q2 1 2 (by decide) s2 _ w2 (by rw [total_two, hl]; simp; omega) (by simp) (fun p q3 _ m3 d3 => ⟨(_, _), rfl, ?_⟩) (fun _ h => absurd (by rw [total_two, hl]; simp; omega) h)
    replace m := m.step m3 (by simp)
    replace r1 := r1.mv m3 (by simp)
    rw [total_two, hl] at d3
    have hb : ([full, []] : List (List Int)).flatten.length = N := by simp [hl]
    generalize ([full, []] : List (List Int)).flatten = bs at d3 hb
    dsimp only
    refine newSl_C q3 0 rfl fun s4 q4 m4 o4 n4 c4 => ?_
    refine newSl_C q4 0 rfl fun s5 q5 m5 o5 n5 c5 => ?_
    replace m := (m.step m4 (by simp)).step m5 (by simp)
    replace d3 := (d3.mv m4 (by simp) (by simp)).mv m5 (by simp) (by simp)
    have w5 : RowsC q5 0 s5 [full, [1]] := RowsC.two o5.rd ((r1.mv m4 (by simp)).mv m5 (by simp)) (by omega) (o4.rd.mv m5 (by simp)) (by omega)
    refine NewDisk_spec q5 1 2 (by decide) s5 _ w5 (by rw [total_two, hl]; simp; omega) (by simp) (fun _ _ h => absurd h (by rw [total_two, hl]; simp; omega)) (fun q6 _ m6 => ⟨(_, _), rfl, ?_⟩)
    replace m := m.step m6 (by simp)
    replace d3 := d3.mv m6 (by simp) (by simp)
    try simp only [derefK_some, fldK_some, Nat.zero_add, Nat.add_zero, Nat.reduceAdd, inj_int, inj_bool, inj_str, inj_ptr, inj_map, inj_slice, exists_eq_left, List.getElem?_toArray, List.getElem?_cons_zero, List.getElem?_cons_succ, Option.isNone_some, Option.isNone_none, Bool.not_true, Bool.not_false, Bool.false_eq_true, if_true, if_false, reduceIte, eq_self, not_true_eq_false, not_false_eq_true, bne_self_eq_false, beq_self_eq_true, decide_true, decide_false, decide_eq_true_eq, beq_iff_eq, bne_iff_ne, ne_eq]
    refine Write_spec (c := 0) (by decide) (by decide) (by decide) d3 ⟨none, 0, 0⟩ [] (RowsC.nil q6 0 _ _) (by decide) (by decide) (fun _ q7 m7 d7 => ⟨_, rfl, ?_⟩) (fun h => absurd (by rw [hb]; simp [total]; omega) h)
    replace m := m.step m7 (by simp)
    rw [List.flatten_nil, List.append_nil] at d7
    try simp only [derefK_some, fldK_some, Nat.zero_add, Nat.add_zero, Nat.reduceAdd, inj_int, inj_bool, inj_str, inj_ptr, inj_map, inj_slice, exists_eq_left, List.getElem?_toArray, List.getElem?_cons_zero, List.getElem?_cons_succ, Option.isNone_some, Option.isNone_none, Bool.not_true, Bool.not_false, Bool.false_eq_true, if_true, if_false, reduceIte, eq_self, not_true_eq_false, not_false_eq_true, bne_self_eq_false, beq_self_eq_true, decide_true, decide_false, decide_eq_true_eq, beq_iff_eq, bne_iff_ne, ne_eq]
    refine newSl_C q7 0 rfl fun s8 q8 m8 o8 n8 c8 => ?_
    refine newSl_C q8 0 rfl fun s9 q9 m9 o9 n9 c9 => ?_
    replace m := (m.step m8 (by simp)).step m9 (by simp)
    replace d7 := (d7.mv m8 (by simp) (by simp)).mv m9 (by simp) (by simp)
    have w9 : RowsC q9 0 s9 [[1]] := RowsC.one o9.rd (o8.rd.mv m9 (by simp)) (by omega)
    refine Write_spec (by decide) (by decide) (by decide) d7 s9 _ w9 (by decide) (by decide) (fun h => absurd h (by rw [hb, total_one]; simp; omega)) (fun _ => ⟨_, rfl, ?_⟩)
    try simp only [derefK_some, fldK_some, Nat.zero_add, Nat.add_zero, Nat.reduceAdd, inj_int, inj_bool, inj_str, inj_ptr, inj_map, inj_slice, exists_eq_left, List.getElem?_toArray, List.getElem?_cons_zero, List.getElem?_cons_succ, Option.isNone_some, Option.isNone_none, Bool.not_true, Bool.not_false, Bool.false_eq_true, if_true, if_false, reduceIte, eq_self, not_true_eq_false, not_false_eq_true, bne_self_eq_false, beq_self_eq_true, decide_true, decide_false, decide_eq_true_eq, beq_iff_eq, bne_iff_ne, ne_eq]
    refine Len_spec d7 ⟨_, rfl, ?_⟩
    try simp only [derefK_some, fldK_some, Nat.zero_add, Nat.add_zero, Nat.reduceAdd, inj_int, inj_bool, inj_str, inj_ptr, inj_map, inj_slice, exists_eq_left, List.getElem?_toArray, List.getElem?_cons_zero, List.getElem?_cons_succ, Option.isNone_some, Option.isNone_none, Bool.not_true, Bool.not_false, Bool.false_eq_true, if_true, if_false, reduceIte, eq_self, not_true_eq_false, not_false_eq_true, bne_self_eq_false, beq_self_eq_true, decide_true, decide_false, decide_eq_true_eq, beq_iff_eq, bne_iff_ne, ne_eq]
    rw [if_neg (by omega)]
    refine Cut_spec (by decide) d7 _ (fun _ q10 m10 d10 => ⟨_, rfl, ?_⟩) (fun h => absurd (by omega) h)
    replace m := m.step m10 (by simp)
    have hk : (1048575 : Int).toNat = 1048575 := rfl
    rw [hk] at d10
    have hb2 : (bs.take 1048575).length = 1048575 := by rw [List.length_take]; omega
    generalize bs.take 1048575 = bs2 at d10 hb2
    try simp only [derefK_some, fldK_some, Nat.zero_add, Nat.add_zero, Nat.reduceAdd, inj_int, inj_bool, inj_str, inj_ptr, inj_map, inj_slice, exists_eq_left, List.getElem?_toArray, List.getElem?_cons_zero, List.getElem?_cons_succ, Option.isNone_some, Option.isNone_none, Bool.not_true, Bool.not_false, Bool.false_eq_true, if_true, if_false, reduceIte, eq_self, not_true_eq_false, not_false_eq_true, bne_self_eq_false, beq_self_eq_true, decide_true, decide_false, decide_eq_true_eq, beq_iff_eq, bne_iff_ne, ne_eq]
    refine newSl_C q10 0 rfl fun s11 q11 m11 o11 n11 c11 => ?_
    refine newSl_C q11 0 rfl fun s12 q12 m12 o12 n12 c12 => ?_
    replace m := (m.step m11 (by simp)).step m12 (by simp)
    replace d10 := (d10.mv m11 (by simp) (by simp)).mv m12 (by simp) (by simp)
    have w12 : RowsC q12 0 s12 [[1], []] := RowsC.two (b := ⟨none, 0, 0⟩) o12.rd (o11.rd.mv m12 (by simp)) (by omega) (RdC.nil _ _ _ _ _) (Nat.le_refl _)
    refine Write_spec (by decide) (by decide) (by decide) d10 s12 _ w12 (by decide) (by decide) (fun _ q13 m13 d13 => ⟨_, rfl, ?_⟩) (fun h => absurd (by rw [hb2, total_two]; decide) h)
    replace m := m.step m13 (by simp)
    have hb3 : (bs2 ++ ([[1], []] : List (List Int)).flatten).length = 1048576 := by simp [hb2]
    generalize bs2 ++ ([[1], []] : List (List Int)).flatten = bs3 at d13 hb3
    try simp only [derefK_some, fldK_some, Nat.zero_add, Nat.add_zero, Nat.reduceAdd, inj_int, inj_bool, inj_str, inj_ptr, inj_map, inj_slice, exists_eq_left, List.getElem?_toArray, List.getElem?_cons_zero, List.getElem?_cons_succ, Option.isNone_some, Option.isNone_none, Bool.not_true, Bool.not_false, Bool.false_eq_true, if_true, if_false, reduceIte, eq_self, not_true_eq_false, not_false_eq_true, bne_self_eq_false, beq_self_eq_true, decide_true, decide_false, decide_eq_true_eq, beq_iff_eq, bne_iff_ne, ne_eq]
    refine newSl_C q13 0 rfl fun s14 q14 m14 o14 n14 c14 => ?_
    refine newSl_C q14 0 rfl fun s15 q15 m15 o15 n15 c15 => ?_
    replace m := (m.step m14 (by simp)).step m15 (by simp)
    replace d13 := (d13.mv m14 (by simp) (by simp)).mv m15 (by simp) (by simp)
    have w15 : RowsC q15 0 s15 [[], [1]] := RowsC.two (a := ⟨none, 0, 0⟩) o15.rd (RdC.nil _ _ _ _ _) (Nat.le_refl _) (o14.rd.mv m15 (by simp)) (by omega)
    refine Write_spec (by decide) (by decide) (by decide) d13 s15 _ w15 (by decide) (by decide) (fun h => absurd h (by rw [hb3, total_two]; decide)) (fun _ => ⟨_, rfl, ?_⟩)
    try simp only [derefK_some, fldK_some, Nat.zero_add, Nat.add_zero, Nat.reduceAdd, inj_int, inj_bool, inj_str, inj_ptr, inj_map, inj_slice, exists_eq_left, List.getElem?_toArray, List.getElem?_cons_zero, List.getElem?_cons_succ, Option.isNone_some, Option.isNone_none, Bool.not_true, Bool.not_false, Bool.false_eq_true, if_true, if_false, reduceIte, eq_self, not_true_eq_false, not_false_eq_true, bne_self_eq_false, beq_self_eq_true, decide_true, decide_false, decide_eq_true_eq, beq_iff_eq, bne_iff_ne, ne_eq]
    refine Fall_spec (by decide) d13 0 fun q16 m16 d16 => ⟨_, rfl, ?_⟩
    replace m := m.step m16 (by simp)
    have hf : fallTo 1048575 bs3.length 0 = 1048575 := by unfold fallTo; simp
    rw [hf] at d16
    have hb4 : (bs3.take 1048575).length = 1048575 := by rw [List.length_take]; omega
    generalize bs3.take 1048575 = bs4 at d16 hb4
    try simp only [derefK_some, fldK_some, Nat.zero_add, Nat.add_zero, Nat.reduceAdd, inj_int, inj_bool, inj_str, inj_ptr, inj_map, inj_slice, exists_eq_left, List.getElem?_toArray, List.getElem?_cons_zero, List.getElem?_cons_succ, Option.isNone_some, Option.isNone_none, Bool.not_true, Bool.not_false, Bool.false_eq_true, if_true, if_false, reduceIte, eq_self, not_true_eq_false, not_false_eq_true, bne_self_eq_false, beq_self_eq_true, decide_true, decide_false, decide_eq_true_eq, beq_iff_eq, bne_iff_ne, ne_eq]
    refine Len_spec d16 ⟨_, rfl, ?_⟩
    try simp only [derefK_some, fldK_some, Nat.zero_add, Nat.add_zero, Nat.reduceAdd, inj_int, inj_bool, inj_str, inj_ptr, inj_map, inj_slice, exists_eq_left, List.getElem?_toArray, List.getElem?_cons_zero, List.getElem?_cons_succ, Option.isNone_some, Option.isNone_none, Bool.not_true, Bool.not_false, Bool.false_eq_true, if_true, if_false, reduceIte, eq_self, not_true_eq_false, not_false_eq_true, bne_self_eq_false, beq_self_eq_true, decide_true, decide_false, decide_eq_true_eq, beq_iff_eq, bne_iff_ne, ne_eq]
    rw [if_neg (by omega)]
    refine ⟨_, build_DiskZ, ?_⟩
    refine new_C q16 3 fun z q17 m17 b17 => ?_
    refine newSl_C q17 4 rfl fun s18 q18 m18 o18 n18 c18 => ?_
    replace m := (m.step m17 (by simp)).step m18 (by simp)
    have r18 : RdC 1 q18 4 s18 ([none, some ⟨z, 0, none⟩].map Value.pointer) := o18.rd
    have hz := b17.mv m18 (by simp)
    have hno : ∀ d ∈ [none, some (⟨z, 0, none⟩ : Addr)], NoDisk q18 3 d := by
      intro d hd
      simp at hd
      rcases hd with rfl | rfl
      · exact .inl rfl
      · exact .inr ⟨z, rfl, hz⟩
    refine loopW_rule (fun st h' => ∃ (i : Nat), i ≤ 2 ∧ st = (i : Int) ∧ h' = q18.h) (fun st => 2 - st.toNat) ⟨0, by omega, rfl, rfl⟩ ?_
    rintro X _ _ ⟨i, hi, rfl, rfl⟩ hX
    try simp only [derefK_some, fldK_some, Nat.zero_add, Nat.add_zero, Nat.reduceAdd, inj_int, inj_bool, inj_str, inj_ptr, inj_map, inj_slice, exists_eq_left, List.getElem?_toArray, List.getElem?_cons_zero, List.getElem?_cons_succ, Option.isNone_some, Option.isNone_none, Bool.not_true, Bool.not_false, Bool.false_eq_true, if_true, if_false, reduceIte, eq_self, not_true_eq_false, not_false_eq_true, bne_self_eq_false, beq_self_eq_true, decide_true, decide_false, decide_eq_true_eq, beq_iff_eq, bne_iff_ne, ne_eq]
    by_cases hlt : i < 2
    · rw [if_pos (by omega)]
      have hsz : sizeOfT Try.prog T.p_disk_Disk = 1 := by kernel_rfl
      have hx : ([none, some (⟨z, 0, none⟩ : Addr)].map Value.pointer)[i]? = some (Kd.inj .ptr ([none, some (⟨z, 0, none⟩ : Addr)][i]'hlt)) := by
        rw [List.getElem?_map, List.getElem?_eq_getElem hlt]; rfl
      have hn := hno _ (List.getElem_mem hlt)
      generalize [none, some (⟨z, 0, none⟩ : Addr)][i]'hlt = dp at hx hn
      refine idxLoadN r18.rd hsz (k := .ptr) dp hx ?_
      refine noWrite hn ⟨none, 0, 0⟩ ⟨_, rfl, ?_⟩
      try simp only [derefK_some, fldK_some, Nat.zero_add, Nat.add_zero, Nat.reduceAdd, inj_int, inj_bool, inj_str, inj_ptr, inj_map, inj_slice, exists_eq_left, List.getElem?_toArray, List.getElem?_cons_zero, List.getElem?_cons_succ, Option.isNone_some, Option.isNone_none, Bool.not_true, Bool.not_false, Bool.false_eq_true, if_true, if_false, reduceIte, eq_self, not_true_eq_false, not_false_eq_true, bne_self_eq_false, beq_self_eq_true, decide_true, decide_false, decide_eq_true_eq, beq_iff_eq, bne_iff_ne, ne_eq]
      refine idxLoadN r18.rd hsz (k := .ptr) dp hx ?_
      refine noSync hn ⟨_, rfl, ?_⟩
      try simp only [derefK_some, fldK_some, Nat.zero_add, Nat.add_zero, Nat.reduceAdd, inj_int, inj_bool, inj_str, inj_ptr, inj_map, inj_slice, exists_eq_left, List.getElem?_toArray, List.getElem?_cons_zero, List.getElem?_cons_succ, Option.isNone_some, Option.isNone_none, Bool.not_true, Bool.not_false, Bool.false_eq_true, if_true, if_false, reduceIte, eq_self, not_true_eq_false, not_false_eq_true, bne_self_eq_false, beq_self_eq_true, decide_true, decide_false, decide_eq_true_eq, beq_iff_eq, bne_iff_ne, ne_eq]
      refine idxLoadN r18.rd hsz (k := .ptr) dp hx ?_
      refine noFall hn _ ⟨_, rfl, ?_⟩
      try simp only [derefK_some, fldK_some, Nat.zero_add, Nat.add_zero, Nat.reduceAdd, inj_int, inj_bool, inj_str, inj_ptr, inj_map, inj_slice, exists_eq_left, List.getElem?_toArray, List.getElem?_cons_zero, List.getElem?_cons_succ, Option.isNone_some, Option.isNone_none, Bool.not_true, Bool.not_false, Bool.false_eq_true, if_true, if_false, reduceIte, eq_self, not_true_eq_false, not_false_eq_true, bne_self_eq_false, beq_self_eq_true, decide_true, decide_false, decide_eq_true_eq, beq_iff_eq, bne_iff_ne, ne_eq]
      refine idxLoadN r18.rd hsz (k := .ptr) dp hx ?_
      refine noCut hn _ ⟨_, rfl, ?_⟩
      try simp only [derefK_some, fldK_some, Nat.zero_add, Nat.add_zero, Nat.reduceAdd, inj_int, inj_bool, inj_str, inj_ptr, inj_map, inj_slice, exists_eq_left, List.getElem?_toArray, List.getElem?_cons_zero, List.getElem?_cons_succ, Option.isNone_some, Option.isNone_none, Bool.not_true, Bool.not_false, Bool.false_eq_true, if_true, if_false, reduceIte, eq_self, not_true_eq_false, not_false_eq_true, bne_self_eq_false, beq_self_eq_true, decide_true, decide_false, decide_eq_true_eq, beq_iff_eq, bne_iff_ne, ne_eq]
      refine idxAt r18.rd hsz (by omega) (by simp; omega) fun a1 l1 => ?_
      refine idxAt r18.rd hsz (by omega) (by simp; omega) fun a2 l2 => ?_
      refine idxAt r18.rd hsz (by omega) (by simp; omega) fun a3 l3 => ?_
      rw [Int.toNat_natCast] at l1 l2 l3
      refine l1 _ .ptr dp _ r18.rd hx ?_
      refine l2 _ .ptr dp _ r18.rd hx ?_
      refine l3 _ .ptr dp _ r18.rd hx ?_
      refine noLen hn ⟨_, rfl, l3 _ .ptr dp _ r18.rd hx rfl, l2 _ .ptr dp _ r18.rd hx rfl, ?_⟩
      refine noSynced hn ⟨_, rfl, l3 _ .ptr dp _ r18.rd hx rfl, ?_⟩
      refine noBytes hn ⟨⟨none, 0, 0⟩, rfl, ?_⟩
      dsimp only
      rw [if_neg (by decide)]
      refine idxLoadN r18.rd hsz (k := .ptr) dp hx ?_
      refine noCopy hn ⟨none, rfl, ?_⟩
      try simp only [derefK_some, fldK_some, Nat.zero_add, Nat.add_zero, Nat.reduceAdd, inj_int, inj_bool, inj_str, inj_ptr, inj_map, inj_slice, exists_eq_left, List.getElem?_toArray, List.getElem?_cons_zero, List.getElem?_cons_succ, Option.isNone_some, Option.isNone_none, Bool.not_true, Bool.not_false, Bool.false_eq_true, if_true, if_false, reduceIte, eq_self, not_true_eq_false, not_false_eq_true, bne_self_eq_false, beq_self_eq_true, decide_true, decide_false, decide_eq_true_eq, beq_iff_eq, bne_iff_ne, ne_eq]
      rw [wrapSucc (by omega)]
      exact hX _ _ ⟨i + 1, by omega, rfl, rfl⟩ (by simp; omega)
    · rw [if_neg (by omega)]
      refine awake_spec q18 fun q19 m19 => ⟨_, rfl, ?_⟩
      exact fin _ _ (m.step m19 (by simp)) (by simp)

theorem DiskSmall_walk (h : Heap) : HC Try.prog F.law25_DiskSmall #[] (fun v h' => v = .bool true ∧ Ext h h') h :=
  DiskSmall_spec ⟨h, fun _ => 0⟩ fun g' m => ⟨rfl, m.ext (by simp)⟩
end Go.Proofs.Ytmejgndgojfcaaa
