/-
  The document's own disk: contracts of its functions; and whether a disk is the document's.
-/
import Derived.Test.YtgongoaiflphaaaGreatKLaw25
set_option linter.unusedSimpArgs false
set_option linter.unusedVariables false
namespace Go.Proofs.YtgongoaiflphaaaGreat
open Go Go.Ev

theorem Join_spec (g : GH) (c : Nat) {d : Nat} (v : Sl) (xss : List (List Int)) (hr : RowsC g d v xss) (ht : total xss ≤ 100000000) (hl : xss.length ≤ 1000000000) {R : Value → Heap → Prop}
    (H : ∀ (s : Sl) (g' : GH), Mv [] g g' → OwnC T.uint8 1 g' c s (xss.flatten.map byV) → R (.slice s.a s.n s.c) g'.h) : HC Tryz.prog F.ref25_Join #[.slice v.a v.n v.c] R g.h := by
  refine ref25_Join.calls (rows0 := v) ?_
  unfold ref25_Join.body
  have hn := hr.len
  refine loopW_rule (fun st h' => ∃ (i : Nat) (s : Sl) (q : GH), i ≤ xss.length ∧ st = (s, (i : Int)) ∧ h' = q.h ∧ Mv [1] g.base q ∧ OwnC T.uint8 1 q 1 s ((xss.take i).flatten.map byV)) (fun st => xss.length - st.2.toNat)
    ⟨0, ⟨none, 0, 0⟩, g.base, by omega, rfl, rfl, Mv.refl _ _, by simpa using OwnC.nil _ _ _ _⟩ ?_
  rintro X _ _ ⟨i, s, q, hi, rfl, rfl, m, o⟩ hX
  have hle := total_le (xss := xss) i
  try simp only [derefK_some, fldK_some, Nat.zero_add, Nat.add_zero, Nat.reduceAdd, inj_int, inj_bool, inj_str, inj_ptr, inj_map, inj_slice, exists_eq_left, List.getElem?_toArray, List.getElem?_cons_zero, List.getElem?_cons_succ, Option.isNone_some, Option.isNone_none, Bool.not_true, Bool.not_false, Bool.false_eq_true, if_true, if_false, reduceIte, eq_self, not_true_eq_false, not_false_eq_true, bne_self_eq_false, beq_self_eq_true, decide_true, decide_false, decide_eq_true_eq, beq_iff_eq, bne_iff_ne, ne_eq]
  by_cases hlt : i < xss.length
  · rw [if_pos (by omega)]
    refine (hr.arg m (by simp)).idx (by kernel_rfl) hlt fun s1 r1 _ => ?_
    have h1 := r1.len
    have h2 := total_take hlt
    have h3 := total_le (xss := xss) (i + 1)
    have h4 := o.len
    simp only [List.length_map] at h1 h4
    unfold total at *
    refine append_C (e := T.uint8) (e2 := T.uint8) (sz := 1) (by_ := 1) (z := .int .u8 0) (by kernel_rfl) (by kernel_rfl) (by kernel_rfl) rfl (by omega) o r1.rd (oneBy _) (by omega) fun s2 q2 m2 o2 hn2 _ => ?_
    rw [wrapSucc (by omega)]
    refine hX _ _ ⟨i + 1, s2, q2, by omega, rfl, rfl, m.step m2 (by simp), ?_⟩ (by simp; omega)
    rw [List.take_succ_eq_append_getElem hlt, List.flatten_append, List.map_append]
    simpa using o2
  · rw [if_neg (by omega)]
    have hi' : i = xss.length := by omega
    subst hi'
    rw [List.take_length] at o
    exact H s (g.via q fun _ => c) (m.via (by simp) _) (o.via m (by simp) _)

/-- The document's disk: what is synced, and the tail. -/
def RefC (g : GH) (kq kr q : Nat) (A B : List Int) : Prop :=
  ∃ s t : Sl, BlkC g kq q #[.slice s.a s.n s.c, .slice t.a t.n t.c] T.zugzwangref25_Disk ∧ RdC 1 g kr s (A.map byV) ∧ RdC 1 g kr t (B.map byV) ∧ True ∧ t.plain ∧ s.n ≤ s.c ∧ t.n ≤ t.c ∧ A.length + B.length ≤ 1048576
theorem RefC.re {K : List Nat} {g q : GH} {kq kr p : Nat} {A B : List Int} (r : RefC q kq kr p A B) (m : Mv K g q) {φ : Nat → Nat} (h1 : φ kq = kq ∨ Fresh g kq) (h2 : φ kr = kr ∨ Fresh g kr) : RefC (g.via q φ) (φ kq) (φ kr) p A B := by
  obtain ⟨s, t, b, o, p, r⟩ := r
  exact ⟨s, t, b.re m h1, o.re m h2, p.re m h2, r⟩
theorem RefC.base {g : GH} {kq kr q : Nat} {A B : List Int} (r : RefC g kq kr q A B) : RefC g.base 0 0 q A B := by
  obtain ⟨s, t, b, o, p, r⟩ := r
  exact ⟨s, t, b.base, o.base, p.base, r⟩
theorem RefC.mv {K : List Nat} {g g' : GH} {kq kr q : Nat} {A B : List Int} (r : RefC g kq kr q A B) (m : Mv K g g') (h1 : kq ∉ K) (h2 : kr ∉ K) : RefC g' kq kr q A B := by
  obtain ⟨s, t, b, o, p, r⟩ := r
  exact ⟨s, t, b.mv m h1, o.mv m h2, p.mv m h2, r⟩

theorem RefBytes_spec (g : GH) (c : Nat) {kq kr q : Nat} {A B : List Int} (hd : RefC g kq kr q A B) {R : Value → Heap → Prop}
    (H : ∀ (s : Sl) (g' : GH), Mv [] g g' → OwnC T.uint8 1 g' c s ((A ++ B).map byV) → R (.slice s.a s.n s.c) g'.h) : HC Tryz.prog F.ref25_Disk_Bytes #[.pointer (some ⟨q, 0, none⟩)] R g.h := by
  obtain ⟨s, t, hb, hs, ht, p1, p2, c1, c2, hlen⟩ := hd
  refine ref25_Disk_Bytes.calls ?_
  unfold ref25_Disk_Bytes.body
  try simp only [derefK_some, fldK_some, Nat.zero_add, Nat.add_zero, Nat.reduceAdd, inj_int, inj_bool, inj_str, inj_ptr, inj_map, inj_slice, exists_eq_left, List.getElem?_toArray, List.getElem?_cons_zero, List.getElem?_cons_succ, Option.isNone_some, Option.isNone_none, Bool.not_true, Bool.not_false, Bool.false_eq_true, if_true, if_false, reduceIte, eq_self, not_true_eq_false, not_false_eq_true, bne_self_eq_false, beq_self_eq_true, decide_true, decide_false, decide_eq_true_eq, beq_iff_eq, bne_iff_ne, ne_eq, loadK_C hb]
  have m0 := Mv.refl [1] g.base
  have hsn := hs.len
  have htn := ht.len
  simp only [List.length_map] at hsn htn
  have hb0 : BlkC g.base 0 q #[.slice s.a s.n s.c, .slice t.a t.n t.c] T.zugzwangref25_Disk := ⟨hb.blk, rfl⟩
  refine newSl_C g.base 1 rfl fun s1 q1 m1 o1 hn1 _ => ?_
  replace m0 := m0.step m1 (by simp)
  refine append_C (e := T.uint8) (e2 := T.uint8) (sz := 1) (by_ := 1) (z := .int .u8 0) (by kernel_rfl) (by kernel_rfl) (by kernel_rfl) rfl (by omega) o1 (hs.arg m0 (by simp)).rd (oneBy _) (by omega) fun s2 q2 m2 o2 hn2 _ => ?_
  replace m0 := m0.step m2 (by simp)
  refine ⟨stillK_C (hb0.mv (m1.trans m2) (by simp)) (by simp [Kd.inj]), ?_⟩
  refine append_C (e := T.uint8) (e2 := T.uint8) (sz := 1) (by_ := 1) (z := .int .u8 0) (by kernel_rfl) (by kernel_rfl) (by kernel_rfl) rfl (by omega) o2 (ht.arg m0 (by simp)).rd (oneBy _) (by omega) fun s3 q3 m3 o3 hn3 _ => ?_
  replace m0 := m0.step m3 (by simp)
  refine H s3 (g.via q3 fun _ => c) (m0.via (by simp) _) ?_
  rw [List.map_append]
  simpa using o3.via m0 (by simp) (fun _ => c)

theorem RefWrite_spec {g : GH} {kq kr q c : Nat} {A B : List Int} (hk : kq ≠ kr) (hd : RefC g kq kr q A B) (v : Sl) (xss : List (List Int)) (hr : RowsC g c v xss) (ht : total xss ≤ 100000000) (hl : xss.length ≤ 1000000000) {R : Value → Heap → Prop}
    (H1 : (A ++ B).length + total xss ≤ 1048576 → ∀ g' : GH, Mv [kq] g g' → RefC g' kq kr q A (B ++ xss.flatten) → R (.int .i64 0) g'.h)
    (H2 : ¬ (A ++ B).length + total xss ≤ 1048576 → ∀ g' : GH, Mv [] g g' → R (.int .i64 3) g'.h) : HC Tryz.prog F.ref25_Disk_Write #[.pointer (some ⟨q, 0, none⟩), .slice v.a v.n v.c] R g.h := by
  refine ref25_Disk_Write.calls (rows1 := v) ?_
  unfold ref25_Disk_Write.body
  obtain ⟨x, hx, hxn⟩ := fresh_exists g [kq, kr]
  simp only [List.mem_cons, List.mem_nil_iff, or_false, not_or] at hxn
  refine Join_spec g x v xss hr ht hl fun j g1 m1 oj => ⟨_, rfl, ?_⟩
  obtain ⟨s, t, hb, hs, ht', p1, p2, c1, c2, hlen⟩ := hd.mv m1 (by simp) (by simp)
  have hjn := oj.len
  have hsn := hs.len
  have htn := ht'.len
  simp only [List.length_map] at hjn hsn htn
  have htt : xss.flatten.length = total xss := rfl
  have hst : (A ++ B).length = A.length + B.length := List.length_append
  try simp only [derefK_some, fldK_some, Nat.zero_add, Nat.add_zero, Nat.reduceAdd, inj_int, inj_bool, inj_str, inj_ptr, inj_map, inj_slice, exists_eq_left, List.getElem?_toArray, List.getElem?_cons_zero, List.getElem?_cons_succ, Option.isNone_some, Option.isNone_none, Bool.not_true, Bool.not_false, Bool.false_eq_true, if_true, if_false, reduceIte, eq_self, not_true_eq_false, not_false_eq_true, bne_self_eq_false, beq_self_eq_true, decide_true, decide_false, decide_eq_true_eq, beq_iff_eq, bne_iff_ne, ne_eq, loadK_C hb]
  rw [wrapI64 (n := (s.n : Int) + (t.n : Int)) (by omega) (by omega), wrapI64 (by omega) (by omega)]
  by_cases hfit : (A ++ B).length + total xss ≤ 1048576
  · rw [if_neg (by omega)]
    obtain ⟨y, hy, hyn⟩ := fresh_exists g [kq, kr, x]
    simp only [List.mem_cons, List.mem_nil_iff, or_false, not_or] at hyn
    refine newSl_C g1 y rfl fun s1 g2 m2 o1 hn1 _ => ?_
    have hb2 := hb.mv m2 (by simp)
    simp only [loadK_C hb2, derefK_some, fldK_some, Nat.zero_add, Nat.add_zero, Nat.reduceAdd, inj_int, inj_bool, inj_str, inj_ptr, inj_map, inj_slice, exists_eq_left, List.getElem?_toArray, List.getElem?_cons_zero, List.getElem?_cons_succ, Option.isNone_some, Option.isNone_none, Bool.not_true, Bool.not_false, Bool.false_eq_true, if_true, if_false, reduceIte, eq_self, not_true_eq_false, not_false_eq_true, bne_self_eq_false, beq_self_eq_true, decide_true, decide_false, decide_eq_true_eq, beq_iff_eq, bne_iff_ne, ne_eq]
    refine append_C (e := T.uint8) (e2 := T.uint8) (sz := 1) (by_ := 1) (z := .int .u8 0) (by kernel_rfl) (by kernel_rfl) (by kernel_rfl) rfl (by omega) o1 (ht'.mv m2 (by simp)).rd (oneBy _) (by omega) fun s2 g3 m3 o2 hn2 _ => ?_
    have oj3 := (oj.mv m2 (by simp)).mv m3 (by simp [Ne.symm hyn.2.2])
    refine append_C (e := T.uint8) (e2 := T.uint8) (sz := 1) (by_ := 1) (z := .int .u8 0) (by kernel_rfl) (by kernel_rfl) (by kernel_rfl) rfl (by omega) o2 oj3.rd.rd (oneBy _) (by omega) fun s3 g4 m4 o3 hn3 _ => ?_
    have hb4 := (hb2.mv m3 (by simp [Ne.symm hyn.1])).mv m4 (by simp [Ne.symm hyn.1])
    refine store_C hb4 (by simp) rfl fun g5 m5 b5 => ?_
    have m : Mv [y, kq] g g5 := ((((m1.mono (by simp) : Mv [y, kq] g g1).step m2 (by simp)).step m3 (by simp)).step m4 (by simp)).step m5 (by simp)
    have hs5 := (((hs.mv m2 (by simp)).mv m3 (by simp [Ne.symm hyn.2.1])).mv m4 (by simp [Ne.symm hyn.2.1])).mv m5 (by simp [Ne.symm hk])
    have o5 := o3.mv m5 (by simp [hyn.1])
    have b6 := b5.re m (φ := reOne y kr) (.inl (reOne_ne (Ne.symm hyn.1)))
    have s6 := hs5.re m (φ := reOne y kr) (.inl (reOne_ne (Ne.symm hyn.2.1)))
    have o6 := o5.re m (φ := reOne y kr) (.inr hy)
    rw [reOne_ne (Ne.symm hyn.1)] at b6
    rw [reOne_ne (Ne.symm hyn.2.1)] at s6
    rw [reOne_self] at o6
    refine H1 hfit (g.via g5 (reOne y kr)) (m.re _ (by simp [hy])) ⟨s, s3, b6, s6, ?_, p1, o6.plain, c1, o6.cap, by rw [List.length_append]; omega⟩
    rw [List.map_append]
    simpa using o6.rd
  · rw [if_pos (by omega)]
    exact H2 hfit g1 m1

theorem RefFall_spec {g : GH} {kq kr q : Nat} {A B : List Int} (hk : kq ≠ kr) (hd : RefC g kq kr q A B) (keep : Int) {R : Value → Heap → Prop}
    (H : ∀ g' : GH, Mv [kq] g g' → RefC g' kq kr q (A ++ B.take (min keep.toNat B.length)) [] → R (.tuple #[]) g'.h) : HC Tryz.prog F.ref25_Disk_Fall #[.pointer (some ⟨q, 0, none⟩), .int .i64 keep] R g.h := by
  refine ref25_Disk_Fall.calls ?_
  unfold ref25_Disk_Fall.body
  obtain ⟨s, t, hb, hs, ht, p1, p2, c1, c2, hlen⟩ := hd
  have hsn := hs.len
  have htn := ht.len
  simp only [List.length_map] at hsn htn
  try simp only [derefK_some, fldK_some, Nat.zero_add, Nat.add_zero, Nat.reduceAdd, inj_int, inj_bool, inj_str, inj_ptr, inj_map, inj_slice, exists_eq_left, List.getElem?_toArray, List.getElem?_cons_zero, List.getElem?_cons_succ, Option.isNone_some, Option.isNone_none, Bool.not_true, Bool.not_false, Bool.false_eq_true, if_true, if_false, reduceIte, eq_self, not_true_eq_false, not_false_eq_true, bne_self_eq_false, beq_self_eq_true, decide_true, decide_false, decide_eq_true_eq, beq_iff_eq, bne_iff_ne, ne_eq, loadK_C hb]
  have hk' : (if (t.n : Int) < (if keep < 0 then 0 else keep) then (t.n : Int) else if keep < 0 then 0 else keep) = ((min keep.toNat B.length : Nat) : Int) := by
    split <;> split <;> omega
  rw [hk']
  refine slice_to p2 rfl (by show _ ≤ t.c; omega) ?_
  have ht2 := ht.take (n := min keep.toNat B.length) (k := t.c) (by simp; omega)
  obtain ⟨y, hy, hyn⟩ := fresh_exists g [kq, kr]
  simp only [List.mem_cons, List.mem_nil_iff, or_false, not_or] at hyn
  refine newSl_C g y rfl fun s1 g2 m2 o1 hn1 _ => ?_
  refine append_C (e := T.uint8) (e2 := T.uint8) (sz := 1) (by_ := 1) (z := .int .u8 0) (by kernel_rfl) (by kernel_rfl) (by kernel_rfl) rfl (by omega) o1 (hs.mv m2 (by simp)).rd (oneBy _) (by omega) fun s2 g3 m3 o2 hn2 _ => ?_
  have hb3 := (hb.mv m2 (by simp)).mv m3 (by simp [Ne.symm hyn.1])
  refine ⟨stillK_C hb3 (by simp [Kd.inj]), stillK_C hb3 (by simp [Kd.inj]), ?_⟩
  have ht3 := (ht2.mv m2 (by simp)).mv m3 (by simp [Ne.symm hyn.2])
  rw [← List.map_take] at ht3
  refine append_C (e := T.uint8) (e2 := T.uint8) (sz := 1) (by_ := 1) (z := .int .u8 0) (by kernel_rfl) (by kernel_rfl) (by kernel_rfl) rfl (by omega) o2 ht3.rd (oneBy _) (by show s2.n + min keep.toNat B.length ≤ _; omega) fun s3 g4 m4 o3 hn3 _ => ?_
  have hb4 := hb3.mv m4 (by simp [Ne.symm hyn.1])
  refine store_C hb4 (by simp) rfl fun g5 m5 b5 => ?_
  refine store_C b5 (by simp) rfl fun g6 m6 b6 => ?_
  have m : Mv [y, kq] g g6 := (((((m2.mono (by simp) : Mv [y, kq] g g2)).step m3 (by simp)).step m4 (by simp)).step m5 (by simp)).step m6 (by simp)
  have o6 := (o3.mv m5 (by simp [hyn.1])).mv m6 (by simp [hyn.1])
  have b7 := b6.re m (φ := reOne y kr) (.inl (reOne_ne (Ne.symm hyn.1)))
  have o7 := o6.re m (φ := reOne y kr) (.inr hy)
  rw [reOne_ne (Ne.symm hyn.1)] at b7
  rw [reOne_self] at o7
  refine H (g.via g6 (reOne y kr)) (m.re _ (by simp [hy])) ⟨s3, ⟨none, 0, 0⟩, b7, ?_, RdC.nil _ _ _ _ _, trivial, .inl rfl, o7.cap, Nat.le_refl _, by rw [List.length_append, List.length_take]; simp; omega⟩
  rw [List.map_append]
  simpa using o7.rd

theorem RefSync_spec {g : GH} {kq kr q : Nat} {A B : List Int} (hk : kq ≠ kr) (hd : RefC g kq kr q A B) {R : Value → Heap → Prop}
    (H : ∀ g' : GH, Mv [kq] g g' → RefC g' kq kr q (A ++ B) [] → R (.tuple #[]) g'.h) : HC Tryz.prog F.ref25_Disk_Sync #[.pointer (some ⟨q, 0, none⟩)] R g.h := by
  refine ref25_Disk_Sync.calls ?_
  unfold ref25_Disk_Sync.body
  have hd' := hd
  obtain ⟨s, t, hb, hs, ht, p1, p2, c1, c2, hlen⟩ := hd
  have htn := ht.len
  simp only [List.length_map] at htn
  try simp only [derefK_some, fldK_some, Nat.zero_add, Nat.add_zero, Nat.reduceAdd, inj_int, inj_bool, inj_str, inj_ptr, inj_map, inj_slice, exists_eq_left, List.getElem?_toArray, List.getElem?_cons_zero, List.getElem?_cons_succ, Option.isNone_some, Option.isNone_none, Bool.not_true, Bool.not_false, Bool.false_eq_true, if_true, if_false, reduceIte, eq_self, not_true_eq_false, not_false_eq_true, bne_self_eq_false, beq_self_eq_true, decide_true, decide_false, decide_eq_true_eq, beq_iff_eq, bne_iff_ne, ne_eq, loadK_C hb]
  refine RefFall_spec hk hd' _ fun g' m r => ⟨(), rfl, H g' m ?_⟩
  have : B.take (min ((t.n : Nat) : Int).toNat B.length) = B := by rw [show min ((t.n : Nat) : Int).toNat B.length = B.length from by omega, List.take_length]
  rw [this] at r
  exact r

theorem RefCut_spec {g : GH} {kq kr q : Nat} {A B : List Int} (hk : kq ≠ kr) (hd : RefC g kq kr q A B) (n : Int) {R : Value → Heap → Prop}
    (H1 : 0 ≤ n ∧ n ≤ (A ++ B).length → ∀ g' : GH, Mv [kq] g g' → RefC g' kq kr q ((A ++ B).take n.toNat) [] → R (.int .i64 0) g'.h)
    (H2 : ¬ (0 ≤ n ∧ n ≤ (A ++ B).length) → R (.int .i64 6) g.h) : HC Tryz.prog F.ref25_Disk_Cut #[.pointer (some ⟨q, 0, none⟩), .int .i64 n] R g.h := by
  refine ref25_Disk_Cut.calls ?_
  unfold ref25_Disk_Cut.body
  have hd' := hd
  obtain ⟨s, t, hb, hs, ht, p1, p2, c1, c2, hlen⟩ := hd
  have hsn := hs.len
  have htn := ht.len
  simp only [List.length_map] at hsn htn
  have hst : (A ++ B).length = A.length + B.length := List.length_append
  try simp only [derefK_some, fldK_some, Nat.zero_add, Nat.add_zero, Nat.reduceAdd, inj_int, inj_bool, inj_str, inj_ptr, inj_map, inj_slice, exists_eq_left, List.getElem?_toArray, List.getElem?_cons_zero, List.getElem?_cons_succ, Option.isNone_some, Option.isNone_none, Bool.not_true, Bool.not_false, Bool.false_eq_true, if_true, if_false, reduceIte, eq_self, not_true_eq_false, not_false_eq_true, bne_self_eq_false, beq_self_eq_true, decide_true, decide_false, decide_eq_true_eq, beq_iff_eq, bne_iff_ne, ne_eq, loadK_C hb]
  by_cases h0 : n < 0
  · rw [if_pos h0]; exact H2 (by omega)
  rw [if_neg h0, wrapI64 (by omega) (by omega)]
  by_cases h3 : n > (s.n : Int) + (t.n : Int)
  · rw [if_pos h3]; exact H2 (by omega)
  rw [if_neg h3]
  obtain ⟨k, rfl⟩ : ∃ k : Nat, n = k := ⟨n.toNat, by omega⟩
  obtain ⟨y, hy, hyn⟩ := fresh_exists g [kq, kr]
  simp only [List.mem_cons, List.mem_nil_iff, or_false, not_or] at hyn
  refine RefBytes_spec g y hd' fun s1 g2 m2 o1 => ⟨_, rfl, ?_⟩
  have h1 := o1.len
  have h2 := o1.cap
  simp only [List.length_map] at h1
  have hb2 := hb.mv m2 (by simp)
  dsimp only
  refine slice_to o1.plain rfl (by omega) ?_
  refine store_C hb2 (by simp) rfl fun g5 m5 b5 => ?_
  refine store_C b5 (by simp) rfl fun g6 m6 b6 => ?_
  have m : Mv [y, kq] g g6 := ((m2.mono (by simp) : Mv [y, kq] g g2).step m5 (by simp)).step m6 (by simp)
  have o6 := (o1.mv m5 (by simp [hyn.1])).mv m6 (by simp [hyn.1])
  have b7 := b6.re m (φ := reOne y kr) (.inl (reOne_ne (Ne.symm hyn.1)))
  have o7 := o6.re m (φ := reOne y kr) (.inr hy)
  rw [reOne_ne (Ne.symm hyn.1)] at b7
  rw [reOne_self] at o7
  have e := o7.rd.take (n := k) (k := s1.c) (by simp; omega)
  rw [← List.map_take] at e
  refine H1 (by omega) (g.via g6 (reOne y kr)) (m.re _ (by simp [hy])) ⟨⟨s1.a, k, s1.c⟩, ⟨none, 0, 0⟩, b7, ?_, RdC.nil _ _ _ _ _, trivial, .inl rfl, by show k ≤ s1.c; omega, Nat.le_refl _, by rw [List.length_take]; simp; omega⟩
  rw [Int.toNat_natCast]
  exact e

end Go.Proofs.YtgongoaiflphaaaGreat
