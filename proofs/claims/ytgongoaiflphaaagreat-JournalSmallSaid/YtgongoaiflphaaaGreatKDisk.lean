/-
  The package disk: contracts of its functions.
-/
import Derived.Test.YtgongoaiflphaaaGreatKKit
import Derived.Test.YtgongoaiflphaaaGreatLay
set_option linter.unusedSimpArgs false
set_option linter.unusedVariables false
namespace Go.Proofs.YtgongoaiflphaaaGreat
open Go Go.Ev

abbrev fileCells (s : Sl) (safe : Nat) : Array Value := #[.slice s.a s.n s.c, .int .i64 safe, .bool true]

/-- A disk: its place, how much is synced, its bytes. -/
def DiskC (g : GH) (kp kb p safe : Nat) (bs : List Int) : Prop :=
  ∃ s : Sl, BlkC g kp p (fileCells s safe) T.disk_Disk ∧ OwnC T.uint8 1 g kb s (bs.map byV) ∧ safe ≤ bs.length ∧ bs.length ≤ 1048576
theorem DiskC.via {K : List Nat} {g q : GH} {kp kb p safe : Nat} {bs : List Int} (r : DiskC q kp kb p safe bs) (m : Mv K g.base q) (h1 : kp ≠ 0) (h2 : kb ≠ 0) (φ : Nat → Nat) : DiskC (g.via q φ) (φ kp) (φ kb) p safe bs := by
  obtain ⟨s, b, o, r⟩ := r
  exact ⟨s, b.via m h1 φ, o.via m h2 φ, r⟩
theorem DiskC.re {K : List Nat} {g q : GH} {kp kb p safe : Nat} {bs : List Int} (r : DiskC q kp kb p safe bs) (m : Mv K g q) {φ : Nat → Nat} (h1 : φ kp = kp ∨ Fresh g kp) (h2 : φ kb = kb ∨ Fresh g kb) : DiskC (g.via q φ) (φ kp) (φ kb) p safe bs := by
  obtain ⟨s, b, o, r⟩ := r
  exact ⟨s, b.re m h1, o.re m h2, r⟩
theorem DiskC.base {g : GH} {kp kb p safe : Nat} {bs : List Int} (r : DiskC g kp kb p safe bs) : DiskC g.base 0 0 p safe bs := by
  obtain ⟨s, b, o, r⟩ := r
  exact ⟨s, b.base, o.base, r⟩
theorem DiskC.mv {K : List Nat} {g g' : GH} {kp kb p safe : Nat} {bs : List Int} (r : DiskC g kp kb p safe bs) (m : Mv K g g') (h1 : kp ∉ K) (h2 : kb ∉ K) : DiskC g' kp kb p safe bs := by
  obtain ⟨s, b, o, r⟩ := r
  exact ⟨s, b.mv m h1, o.mv m h2, r⟩

theorem fits_spec {g : GH} {kp c p safe : Nat} {s : Sl} (hb : BlkC g kp p (fileCells s safe) T.disk_Disk) (rows : Sl) (xss : List (List Int)) (hr : RowsC g c rows xss) (hs : s.n ≤ 1000000000000) (ht : total xss ≤ 1000000000000000) (hl : xss.length ≤ 1000000000000000)
    {R : Value → Heap → Prop} (H : R (.bool (decide (s.n + total xss ≤ 1048576))) g.h) : HC Tryz.prog F.disk_file_fits #[.pointer (some ⟨p, 0, none⟩), .slice rows.a rows.n rows.c] R g.h := by
  refine disk_file_fits.calls (rows1 := rows) ?_
  unfold disk_file_fits.body
  simp only [derefK_some, fldK_some, Nat.zero_add, Nat.add_zero, Nat.reduceAdd, inj_int, inj_bool, inj_str, inj_ptr, inj_map, inj_slice, exists_eq_left, List.getElem?_toArray, List.getElem?_cons_zero, List.getElem?_cons_succ, Option.isNone_some, Option.isNone_none, Bool.not_true, Bool.not_false, Bool.false_eq_true, if_true, if_false, reduceIte, eq_self, not_true_eq_false, not_false_eq_true, bne_self_eq_false, beq_self_eq_true, decide_true, decide_false, decide_eq_true_eq, beq_iff_eq, bne_iff_ne, ne_eq, loadK_C hb]
  have hn := hr.len
  refine loopW_rule (fun st h' => ∃ i : Nat, i ≤ xss.length ∧ st = (((s.n + total (xss.take i) : Nat) : Int), (i : Int)) ∧ g.h = h') (fun st => xss.length - st.2.toNat) ⟨0, by omega, by simp [total], rfl⟩ ?_
  rintro X _ _ ⟨i, hi, rfl, rfl⟩ hX
  have hle := total_le (xss := xss) i
  dsimp only
  by_cases hlt : i < xss.length
  · rw [if_pos (by simp [hn]; omega)]
    refine hr.idx (by kernel_rfl) hlt fun s1 r1 _ => ?_
    have h1 := r1.len
    have h2 := total_take hlt
    have h3 := total_le (xss := xss) (i + 1)
    simp at h1
    rw [wrapSucc (by omega), wrapI64 (by omega) (by omega)]
    exact hX _ _ ⟨i + 1, by omega, by rw [h2]; simp; omega, rfl⟩ (by simp; omega)
  · rw [if_neg (by simp [hn]; omega)]
    have hi' : i = xss.length := by omega
    subst hi'
    rw [List.take_length]
    have : decide (((s.n + total xss : Nat) : Int) ≤ 1048576) = decide (s.n + total xss ≤ 1048576) := by congr 1; apply propext; omega
    rw [this]
    exact H

theorem put_spec {g : GH} {kp kb c p safe : Nat} {s : Sl} {bs : List Int} (hk : kp ≠ kb) (hcp : c ≠ kp) (hcb : c ≠ kb) (hb : BlkC g kp p (fileCells s safe) T.disk_Disk) (ho : OwnC T.uint8 1 g kb s (bs.map byV)) (rows : Sl) (xss : List (List Int)) (hr : RowsC g c rows xss) (ht : bs.length + total xss ≤ 100000000) (hl : xss.length ≤ 1000000000000000)
    {R : Value → Heap → Prop} (H : ∀ (s' : Sl) (g' : GH), Mv [kp, kb] g g' → BlkC g' kp p (fileCells s' safe) T.disk_Disk → OwnC T.uint8 1 g' kb s' ((bs ++ xss.flatten).map byV) → R (.tuple #[]) g'.h) :
    HC Tryz.prog F.disk_file_put #[.pointer (some ⟨p, 0, none⟩), .slice rows.a rows.n rows.c] R g.h := by
  refine disk_file_put.calls (rows1 := rows) ?_
  unfold disk_file_put.body
  have hn := hr.len
  refine loopW_rule (fun st h' => ∃ (i : Nat) (s' : Sl) (q : GH), i ≤ xss.length ∧ st = (i : Int) ∧ h' = q.h ∧ Mv [kp, kb] g q ∧ BlkC q kp p (fileCells s' safe) T.disk_Disk ∧ OwnC T.uint8 1 q kb s' ((bs ++ (xss.take i).flatten).map byV)) (fun st => xss.length - st.toNat)
    ⟨0, s, g, by omega, rfl, rfl, Mv.refl _ _, hb, by simpa using ho⟩ ?_
  rintro X _ _ ⟨i, s', q, hi, rfl, rfl, m, hb', ho'⟩ hX
  have hle := total_le (xss := xss) i
  by_cases hlt : i < xss.length
  · rw [if_pos (by simp [hn]; omega)]
    refine (hr.mv m (by simp [hcp, hcb])).idx (by kernel_rfl) hlt fun s1 r1 _ => ?_
    have h1 := r1.len
    have h2 := total_take hlt
    have h3 := total_le (xss := xss) (i + 1)
    have h4 := ho'.len
    simp at h1
    rw [List.length_map, List.length_append] at h4
    simp only [derefK_some, fldK_some, Nat.zero_add, Nat.add_zero, Nat.reduceAdd, inj_int, inj_bool, inj_str, inj_ptr, inj_map, inj_slice, exists_eq_left, List.getElem?_toArray, List.getElem?_cons_zero, List.getElem?_cons_succ, Option.isNone_some, Option.isNone_none, Bool.not_true, Bool.not_false, Bool.false_eq_true, if_true, if_false, reduceIte, eq_self, not_true_eq_false, not_false_eq_true, bne_self_eq_false, beq_self_eq_true, decide_true, decide_false, decide_eq_true_eq, beq_iff_eq, bne_iff_ne, ne_eq, loadK_C hb']
    unfold total at *
    refine append_C (e := T.uint8) (e2 := T.uint8) (sz := 1) (by_ := 1) (z := .int .u8 0) (by kernel_rfl) (by kernel_rfl) (by kernel_rfl) rfl (by omega) ho' r1.rd (oneBy _) (by omega) fun s2 q2 m2 o2 hn2 _ => ?_
    have hb2 := hb'.mv m2 (by simp [hk])
    refine store_C hb2 (by simp) rfl fun q3 m3 b3 => ?_
    rw [wrapSucc (by omega)]
    refine hX _ _ ⟨i + 1, s2, q3, by omega, rfl, rfl, (m.step m2 (by simp)).step m3 (by simp), b3, ?_⟩ (by simp; omega)
    rw [List.take_succ_eq_append_getElem hlt, List.flatten_append, ← List.append_assoc, List.map_append]
    simpa using o2.mv m3 (by simp [Ne.symm hk])
  · rw [if_neg (by simp [hn]; omega)]
    have hi' : i = xss.length := by omega
    subst hi'
    rw [List.take_length] at ho'
    exact H s' q m hb' ho'

theorem leave_spec {g : GH} {kp kb p safe n : Nat} {s : Sl} {bs : List Int} (hk : kp ≠ kb) (hb : BlkC g kp p (fileCells s safe) T.disk_Disk) (ho : OwnC T.uint8 1 g kb s (bs.map byV)) (hn : n ≤ bs.length)
    {R : Value → Heap → Prop} (hl : bs.length ≤ 1048576) (H : ∀ g' : GH, Mv [kp] g g' → DiskC g' kp kb p n (bs.take n) → R (.tuple #[]) g'.h) :
    HC Tryz.prog F.disk_file_leave #[.pointer (some ⟨p, 0, none⟩), .int .i64 (n : Int)] R g.h := by
  refine disk_file_leave.calls ?_
  unfold disk_file_leave.body
  simp only [derefK_some, fldK_some, Nat.zero_add, Nat.add_zero, Nat.reduceAdd, inj_int, inj_bool, inj_str, inj_ptr, inj_map, inj_slice, exists_eq_left, List.getElem?_toArray, List.getElem?_cons_zero, List.getElem?_cons_succ, Option.isNone_some, Option.isNone_none, Bool.not_true, Bool.not_false, Bool.false_eq_true, if_true, if_false, reduceIte, eq_self, not_true_eq_false, not_false_eq_true, bne_self_eq_false, beq_self_eq_true, decide_true, decide_false, decide_eq_true_eq, beq_iff_eq, bne_iff_ne, ne_eq, loadK_C hb]
  have h1 := ho.len
  have h2 := ho.cap
  simp at h1
  refine ⟨0, n, n, ⟨rfl, by show n ≤ s.c; omega⟩, ⟨rfl, Nat.le_refl _⟩, rfl, ?_⟩
  rw [map_add_zero ho.plain, ite_self, Nat.sub_zero]
  refine store_C hb (by simp) rfl fun q1 m1 b1 => ?_
  refine store_C b1 (by simp) rfl fun q2 m2 b2 => ?_
  have o2 := (ho.mv m1 (by simp [Ne.symm hk])).mv m2 (by simp [Ne.symm hk])
  refine H q2 (m1.step m2 (by simp)) ⟨⟨s.a, n, n⟩, b2, ?_, by simp; omega, by simp; omega⟩
  rw [List.map_take]
  exact o2.take (by simp; omega) (Nat.le_refl _) (by omega)

/-! ### Methods -/

theorem build_Disk0 (w : World) : (Instr.build T.disk_Disk #[(1, .bool true)]).run Tryz.prog w = .ok (.agg (fileCells ⟨none, 0, 0⟩ 0)) w := by kernel_rfl

theorem thereDisk_spec {g : GH} {kp kb p safe : Nat} {bs : List Int} (hd : DiskC g kp kb p safe bs) {R : Value → Heap → Prop} (H : R (.bool true) g.h) : HC Tryz.prog F.disk_Disk_there #[.pointer (some ⟨p, 0, none⟩)] R g.h := by
  obtain ⟨s, hb, _⟩ := hd
  refine disk_Disk_there.calls ?_
  unfold disk_Disk_there.body
  simp only [derefK_some, fldK_some, Nat.zero_add, Nat.add_zero, Nat.reduceAdd, inj_int, inj_bool, inj_str, inj_ptr, inj_map, inj_slice, exists_eq_left, List.getElem?_toArray, List.getElem?_cons_zero, List.getElem?_cons_succ, Option.isNone_some, Option.isNone_none, Bool.not_true, Bool.not_false, Bool.false_eq_true, if_true, if_false, reduceIte, eq_self, not_true_eq_false, not_false_eq_true, bne_self_eq_false, beq_self_eq_true, decide_true, decide_false, decide_eq_true_eq, beq_iff_eq, bne_iff_ne, ne_eq, loadK_C hb]
  exact H

theorem NewDisk_spec (g : GH) (kp kb : Nat) (hk : kp ≠ kb) {c : Nat} (rows : Sl) (xss : List (List Int)) (hr : RowsC g c rows xss) (ht : total xss ≤ 100000000) (hl : xss.length ≤ 1000000000000000)
    {R : Value → Heap → Prop} (H1 : ∀ (p : Nat) (g' : GH), total xss ≤ 1048576 → Mv [] g g' → DiskC g' kp kb p (total xss) xss.flatten → R (.tuple #[.pointer (some ⟨p, 0, none⟩), .int .i64 0]) g'.h)
    (H2 : ∀ g' : GH, ¬ total xss ≤ 1048576 → Mv [] g g' → R (.tuple #[.pointer none, .int .i64 3]) g'.h) :
    HC Tryz.prog F.disk_New #[.slice rows.a rows.n rows.c] R g.h := by
  refine disk_New.calls (rows0 := rows) ?_
  unfold disk_New.body
  refine ⟨_, build_Disk0, ?_⟩
  have m0 := Mv.refl [1, 2] ⟨g.h, fun _ => 0⟩
  refine new_C ⟨g.h, fun _ => 0⟩ 1 fun p q1 m1 b1 => ?_
  try simp only [derefK_some, fldK_some, Nat.zero_add, Nat.add_zero, Nat.reduceAdd, inj_int, inj_bool, inj_str, inj_ptr, inj_map, inj_slice, exists_eq_left, List.getElem?_toArray, List.getElem?_cons_zero, List.getElem?_cons_succ, Option.isNone_some, Option.isNone_none, Bool.not_true, Bool.not_false, Bool.false_eq_true, if_true, if_false, reduceIte, eq_self, not_true_eq_false, not_false_eq_true, bne_self_eq_false, beq_self_eq_true, decide_true, decide_false, decide_eq_true_eq, beq_iff_eq, bne_iff_ne, ne_eq]
  have r1 := (hr.arg m0 (by simp)).mv m1 (by simp)
  refine fits_spec b1 rows xss r1 (by simp) (by omega) hl ⟨_, rfl, ?_⟩
  simp only [Nat.zero_add, derefK_some, fldK_some, Nat.zero_add, Nat.add_zero, Nat.reduceAdd, inj_int, inj_bool, inj_str, inj_ptr, inj_map, inj_slice, exists_eq_left, List.getElem?_toArray, List.getElem?_cons_zero, List.getElem?_cons_succ, Option.isNone_some, Option.isNone_none, Bool.not_true, Bool.not_false, Bool.false_eq_true, if_true, if_false, reduceIte, eq_self, not_true_eq_false, not_false_eq_true, bne_self_eq_false, beq_self_eq_true, decide_true, decide_false, decide_eq_true_eq, beq_iff_eq, bne_iff_ne, ne_eq, decide_eq_true_eq, beq_iff_eq, bne_iff_ne, ne_eq, Bool.not_eq_true, Bool.not_eq_false, decide_eq_false_iff_not, Bool.not_eq_eq_eq_not, Bool.not_true]
  by_cases hfit : total xss ≤ 1048576
  · rw [if_neg (by simpa using hfit)]
    refine put_spec (kb := 2) (bs := []) (by decide) (by decide) (by decide) b1 (by simpa using OwnC.nil _ _ _ _) rows xss r1 (by simp; omega) hl fun s2 q2 m2 b2 o2 => ⟨(), rfl, ?_⟩
    simp only [derefK_some, fldK_some, Nat.zero_add, Nat.add_zero, Nat.reduceAdd, inj_int, inj_bool, inj_str, inj_ptr, inj_map, inj_slice, exists_eq_left, List.getElem?_toArray, List.getElem?_cons_zero, List.getElem?_cons_succ, Option.isNone_some, Option.isNone_none, Bool.not_true, Bool.not_false, Bool.false_eq_true, if_true, if_false, reduceIte, eq_self, not_true_eq_false, not_false_eq_true, bne_self_eq_false, beq_self_eq_true, decide_true, decide_false, decide_eq_true_eq, beq_iff_eq, bne_iff_ne, ne_eq, loadK_C b2]
    have hn := o2.len
    simp only [List.nil_append, List.length_map] at hn o2
    have hn' : s2.n = total xss := hn
    rw [hn']
    refine leave_spec (bs := xss.flatten) (by decide) b2 o2 (Nat.le_refl _) (by exact hfit) fun q3 m3 d3 => ⟨(), rfl, ?_⟩
    rw [List.take_length] at d3
    have m := ((m0.step m1 (by simp)).step m2 (by simp)).step m3 (by simp)
    exact H1 p (g.via q3 fun k => if k = 1 then kp else kb) hfit (m.via (by simp) _) (d3.via m (by simp) (by simp) _)
  · rw [if_pos (by simpa using hfit)]
    have m := m0.step m1 (by simp)
    exact H2 (g.via q1 fun _ => 0) hfit (m.via (by simp) _)

theorem Bytes_spec' (g : GH) (c : Nat) {kp kb p safe : Nat} {bs : List Int} (hd : DiskC g kp kb p safe bs) {R : Value → Heap → Prop}
    (H : ∀ (s' : Sl) (g' : GH), Mv [] g g' → OwnC T.uint8 1 g' c s' (bs.map byV) → R (.slice s'.a s'.n s'.c) g'.h) : HC Tryz.prog F.disk_Disk_Bytes #[.pointer (some ⟨p, 0, none⟩)] R g.h := by
  refine disk_Disk_Bytes.calls ?_
  unfold disk_Disk_Bytes.body
  refine thereDisk_spec hd ⟨_, rfl, ?_⟩
  obtain ⟨s, hb, ho, h1, h2⟩ := hd
  simp only [derefK_some, fldK_some, Nat.zero_add, Nat.add_zero, Nat.reduceAdd, inj_int, inj_bool, inj_str, inj_ptr, inj_map, inj_slice, exists_eq_left, List.getElem?_toArray, List.getElem?_cons_zero, List.getElem?_cons_succ, Option.isNone_some, Option.isNone_none, Bool.not_true, Bool.not_false, Bool.false_eq_true, if_true, if_false, reduceIte, eq_self, not_true_eq_false, not_false_eq_true, bne_self_eq_false, beq_self_eq_true, decide_true, decide_false, decide_eq_true_eq, beq_iff_eq, bne_iff_ne, ne_eq, loadK_C hb]
  exact CloneBytes_spec g c s _ ho.rd.rd (by omega) (fun s' g' m o => ⟨_, rfl, H s' g' m o⟩)

theorem Synced_spec {g : GH} {kp kb p safe : Nat} {bs : List Int} (hd : DiskC g kp kb p safe bs) {R : Value → Heap → Prop} (H : R (.int .i64 safe) g.h) : HC Tryz.prog F.disk_Disk_Synced #[.pointer (some ⟨p, 0, none⟩)] R g.h := by
  refine disk_Disk_Synced.calls ?_
  unfold disk_Disk_Synced.body
  refine thereDisk_spec hd ⟨_, rfl, ?_⟩
  obtain ⟨s, hb, ho, h1, h2⟩ := hd
  simp only [derefK_some, fldK_some, Nat.zero_add, Nat.add_zero, Nat.reduceAdd, inj_int, inj_bool, inj_str, inj_ptr, inj_map, inj_slice, exists_eq_left, List.getElem?_toArray, List.getElem?_cons_zero, List.getElem?_cons_succ, Option.isNone_some, Option.isNone_none, Bool.not_true, Bool.not_false, Bool.false_eq_true, if_true, if_false, reduceIte, eq_self, not_true_eq_false, not_false_eq_true, bne_self_eq_false, beq_self_eq_true, decide_true, decide_false, decide_eq_true_eq, beq_iff_eq, bne_iff_ne, ne_eq, loadK_C hb]
  exact H

theorem Len_spec {g : GH} {kp kb p safe : Nat} {bs : List Int} (hd : DiskC g kp kb p safe bs) {R : Value → Heap → Prop} (H : R (.int .i64 (bs.length : Nat)) g.h) : HC Tryz.prog F.disk_Disk_Len #[.pointer (some ⟨p, 0, none⟩)] R g.h := by
  refine disk_Disk_Len.calls ?_
  unfold disk_Disk_Len.body
  refine thereDisk_spec hd ⟨_, rfl, ?_⟩
  obtain ⟨s, hb, ho, h1, h2⟩ := hd
  have hn := ho.len
  simp only [List.length_map] at hn
  simp only [derefK_some, fldK_some, Nat.zero_add, Nat.add_zero, Nat.reduceAdd, inj_int, inj_bool, inj_str, inj_ptr, inj_map, inj_slice, exists_eq_left, List.getElem?_toArray, List.getElem?_cons_zero, List.getElem?_cons_succ, Option.isNone_some, Option.isNone_none, Bool.not_true, Bool.not_false, Bool.false_eq_true, if_true, if_false, reduceIte, eq_self, not_true_eq_false, not_false_eq_true, bne_self_eq_false, beq_self_eq_true, decide_true, decide_false, decide_eq_true_eq, beq_iff_eq, bne_iff_ne, ne_eq, loadK_C hb, hn]
  exact H

/-- A fall's number of bytes. -/
def fallTo (safe len : Nat) (keep : Int) : Nat := safe + min keep.toNat (len - safe)

theorem Fall_spec {g : GH} {kp kb p safe : Nat} {bs : List Int} (hk : kp ≠ kb) (hd : DiskC g kp kb p safe bs) (keep : Int) {R : Value → Heap → Prop}
    (H : ∀ g' : GH, Mv [kp] g g' → DiskC g' kp kb p (fallTo safe bs.length keep) (bs.take (fallTo safe bs.length keep)) → R (.int .i64 0) g'.h) : HC Tryz.prog F.disk_Disk_Fall #[.pointer (some ⟨p, 0, none⟩), .int .i64 keep] R g.h := by
  refine disk_Disk_Fall.calls ?_
  unfold disk_Disk_Fall.body
  refine thereDisk_spec hd ⟨_, rfl, ?_⟩
  obtain ⟨s, hb, ho, h1, h2⟩ := hd
  have hn := ho.len
  simp only [List.length_map] at hn
  simp only [derefK_some, fldK_some, Nat.zero_add, Nat.add_zero, Nat.reduceAdd, inj_int, inj_bool, inj_str, inj_ptr, inj_map, inj_slice, exists_eq_left, List.getElem?_toArray, List.getElem?_cons_zero, List.getElem?_cons_succ, Option.isNone_some, Option.isNone_none, Bool.not_true, Bool.not_false, Bool.false_eq_true, if_true, if_false, reduceIte, eq_self, not_true_eq_false, not_false_eq_true, bne_self_eq_false, beq_self_eq_true, decide_true, decide_false, decide_eq_true_eq, beq_iff_eq, bne_iff_ne, ne_eq, loadK_C hb, hn]
  rw [wrapI64 (n := ((bs.length : Nat) : Int) - (safe : Int)) (by omega) (by omega), wrapI64 (by split <;> split <;> omega) (by split <;> split <;> omega)]
  have : ((safe : Int) + if (bs.length : Int) - (safe : Int) < if keep < 0 then 0 else keep then (bs.length : Int) - (safe : Int) else if keep < 0 then 0 else keep) = ((fallTo safe bs.length keep : Nat) : Int) := by
    unfold fallTo
    split <;> split <;> omega
  rw [this]
  exact leave_spec hk hb ho (by unfold fallTo; omega) h2 fun g' m d => ⟨(), rfl, H g' m d⟩

theorem Sync_spec {g : GH} {kp kb p safe : Nat} {bs : List Int} (hk : kp ≠ kb) (hd : DiskC g kp kb p safe bs) {R : Value → Heap → Prop}
    (H : ∀ g' : GH, Mv [kp] g g' → DiskC g' kp kb p bs.length bs → R (.int .i64 0) g'.h) : HC Tryz.prog F.disk_Disk_Sync #[.pointer (some ⟨p, 0, none⟩)] R g.h := by
  refine disk_Disk_Sync.calls ?_
  unfold disk_Disk_Sync.body
  refine thereDisk_spec hd ⟨_, rfl, ?_⟩
  obtain ⟨s, hb, ho, h1, h2⟩ := hd
  have hn := ho.len
  simp only [List.length_map] at hn
  simp only [derefK_some, fldK_some, Nat.zero_add, Nat.add_zero, Nat.reduceAdd, inj_int, inj_bool, inj_str, inj_ptr, inj_map, inj_slice, exists_eq_left, List.getElem?_toArray, List.getElem?_cons_zero, List.getElem?_cons_succ, Option.isNone_some, Option.isNone_none, Bool.not_true, Bool.not_false, Bool.false_eq_true, if_true, if_false, reduceIte, eq_self, not_true_eq_false, not_false_eq_true, bne_self_eq_false, beq_self_eq_true, decide_true, decide_false, decide_eq_true_eq, beq_iff_eq, bne_iff_ne, ne_eq, loadK_C hb, hn]
  refine store_C hb (by simp) rfl fun q1 m1 b1 => ?_
  exact H q1 m1 ⟨s, b1, ho.mv m1 (by simp [Ne.symm hk]), Nat.le_refl _, h2⟩

theorem Write_spec {g : GH} {kp kb c p safe : Nat} {bs : List Int} (hk : kp ≠ kb) (hcp : c ≠ kp) (hcb : c ≠ kb) (hd : DiskC g kp kb p safe bs) (rows : Sl) (xss : List (List Int)) (hr : RowsC g c rows xss) (ht : total xss ≤ 90000000) (hl : xss.length ≤ 1000000000000000) {R : Value → Heap → Prop}
    (H1 : bs.length + total xss ≤ 1048576 → ∀ g' : GH, Mv [kp, kb] g g' → DiskC g' kp kb p safe (bs ++ xss.flatten) → R (.int .i64 0) g'.h)
    (H2 : ¬ bs.length + total xss ≤ 1048576 → R (.int .i64 3) g.h) : HC Tryz.prog F.disk_Disk_Write #[.pointer (some ⟨p, 0, none⟩), .slice rows.a rows.n rows.c] R g.h := by
  refine disk_Disk_Write.calls (rows1 := rows) ?_
  unfold disk_Disk_Write.body
  refine thereDisk_spec hd ⟨_, rfl, ?_⟩
  obtain ⟨s, hb, ho, h1, h2⟩ := hd
  have hn := ho.len
  simp only [List.length_map] at hn
  try simp only [derefK_some, fldK_some, Nat.zero_add, Nat.add_zero, Nat.reduceAdd, inj_int, inj_bool, inj_str, inj_ptr, inj_map, inj_slice, exists_eq_left, List.getElem?_toArray, List.getElem?_cons_zero, List.getElem?_cons_succ, Option.isNone_some, Option.isNone_none, Bool.not_true, Bool.not_false, Bool.false_eq_true, if_true, if_false, reduceIte, eq_self, not_true_eq_false, not_false_eq_true, bne_self_eq_false, beq_self_eq_true, decide_true, decide_false, decide_eq_true_eq, beq_iff_eq, bne_iff_ne, ne_eq]
  refine fits_spec hb rows xss hr (by omega) (by omega) hl ⟨_, rfl, ?_⟩
  dsimp only
  rw [hn]
  by_cases hfit : bs.length + total xss ≤ 1048576
  · rw [if_neg (by simpa using hfit)]
    refine put_spec hk hcp hcb hb ho rows xss hr (by omega) hl fun s' g' m b o => ⟨(), rfl, ?_⟩
    exact H1 hfit g' m ⟨s', b, o, by simp; omega, by rw [List.length_append]; exact hfit⟩
  · rw [if_pos (by simpa using hfit)]
    exact H2 hfit

theorem Cut_spec {g : GH} {kp kb p safe : Nat} {bs : List Int} (hk : kp ≠ kb) (hd : DiskC g kp kb p safe bs) (n : Int) {R : Value → Heap → Prop}
    (H1 : 0 ≤ n ∧ n ≤ bs.length → ∀ g' : GH, Mv [kp] g g' → DiskC g' kp kb p n.toNat (bs.take n.toNat) → R (.int .i64 0) g'.h)
    (H2 : ¬ (0 ≤ n ∧ n ≤ bs.length) → R (.int .i64 6) g.h) : HC Tryz.prog F.disk_Disk_Cut #[.pointer (some ⟨p, 0, none⟩), .int .i64 n] R g.h := by
  refine disk_Disk_Cut.calls ?_
  unfold disk_Disk_Cut.body
  refine thereDisk_spec hd ⟨_, rfl, ?_⟩
  obtain ⟨s, hb, ho, h1, h2⟩ := hd
  have hn := ho.len
  simp only [List.length_map] at hn
  simp only [derefK_some, fldK_some, Nat.zero_add, Nat.add_zero, Nat.reduceAdd, inj_int, inj_bool, inj_str, inj_ptr, inj_map, inj_slice, exists_eq_left, List.getElem?_toArray, List.getElem?_cons_zero, List.getElem?_cons_succ, Option.isNone_some, Option.isNone_none, Bool.not_true, Bool.not_false, Bool.false_eq_true, if_true, if_false, reduceIte, eq_self, not_true_eq_false, not_false_eq_true, bne_self_eq_false, beq_self_eq_true, decide_true, decide_false, decide_eq_true_eq, beq_iff_eq, bne_iff_ne, ne_eq, loadK_C hb, hn]
  by_cases h0 : n < 0
  · rw [if_pos (by simpa using h0)]
    exact H2 (by omega)
  rw [if_neg (by simpa using h0)]
  by_cases h3 : n > bs.length
  · rw [if_pos (by simpa using h3)]
    exact H2 (by omega)
  rw [if_neg (by simpa using h3)]
  obtain ⟨k, rfl⟩ : ∃ k : Nat, n = k := ⟨n.toNat, by omega⟩
  refine leave_spec hk hb ho (by omega) h2 fun g' m d => ⟨(), rfl, H1 (by omega) g' m ?_⟩
  simpa using d

end Go.Proofs.YtgongoaiflphaaaGreat
