/-
  The law DiskStays: what it answers.
-/
import Derived.Test.YtmejgndgojfcaaaKLaw25
set_option linter.unusedSimpArgs false
set_option linter.unusedVariables false
namespace Go.Proofs.Ytmejgndgojfcaaa
open Go Go.Ev

def stepD (d : Deed) (safe : Nat) (bs : List Int) : Nat × List Int :=
  if d.1 % 3 = 0 then (safe, bs ++ d.2.2.1.flatten) else if d.1 % 3 = 1 then (bs.length, bs) else (fallTo safe bs.length d.2.1, bs.take (fallTo safe bs.length d.2.1))

theorem stepD_le (d : Deed) (safe : Nat) (bs : List Int) : (stepD d safe bs).2.length ≤ bs.length + deedSize d := by
  unfold stepD deedSize total
  split
  · simp only [List.length_append]; omega
  · split
    · dsimp only; omega
    · simp only [List.length_take]; omega

theorem stepD_keeps (d : Deed) (safe : Nat) (bs : List Int) (h : safe ≤ bs.length) : safe ≤ (stepD d safe bs).1 ∧ (stepD d safe bs).1 ≤ (stepD d safe bs).2.length ∧ (stepD d safe bs).2.take safe = bs.take safe := by
  unfold stepD
  split
  · refine ⟨Nat.le_refl _, ?_, ?_⟩
    · simp only [List.length_append]; omega
    · dsimp only; rw [List.take_append_of_le_length h]
  · split
    · exact ⟨h, Nat.le_refl _, rfl⟩
    · have : safe ≤ fallTo safe bs.length d.2.1 ∧ fallTo safe bs.length d.2.1 ≤ bs.length := by unfold fallTo; omega
      refine ⟨this.1, ?_, ?_⟩
      · simp only [List.length_take]; omega
      · dsimp only; rw [List.take_take, Nat.min_eq_left this.1]

theorem do_spec {g : GH} {kp kb c p safe : Nat} {bs : List Int} (hk : kp ≠ kb) (hcp : c ≠ kp) (hcb : c ≠ kb) (hd : DiskC g kp kb p safe bs) (d : Deed) (v : Sl) (hr : SlC g c (.sl (.int .u8)) v d.2.2.1)
    (hw : -9223372036854775808 ≤ d.1 ∧ d.1 ≤ 9223372036854775807) (ht : bs.length + deedSize d ≤ 1048576) {R : Value → Heap → Prop}
    (H : ∀ g' : GH, Mv [kp, kb] g g' → DiskC g' kp kb p (stepD d safe bs).1 (stepD d safe bs).2 → R (.int .i64 0) g'.h) :
    HC Try.prog F.law25_do #[.pointer (some ⟨p, 0, none⟩), .agg #[.int .i64 d.1, .int .i64 d.2.1, slV v]] R g.h := by
  refine law25_do.calls ?_
  unfold law25_do.body
  obtain ⟨x, hx⟩ : ∃ x, x ≠ kp ∧ x ≠ kb := ⟨kp + kb + 1, by omega, by omega⟩
  refine new_C g x fun q g1 m1 b1 => ?_
  replace hd := hd.mv m1 (by simp) (by simp)
  replace hr := hr.mv m1 (by simp)
  unfold deedSize at ht
  simp only [slV, derefK_some, fldK_some, Nat.zero_add, Nat.add_zero, Nat.reduceAdd, inj_int, inj_bool, inj_str, inj_ptr, inj_map, inj_slice, exists_eq_left, List.getElem?_toArray, List.getElem?_cons_zero, List.getElem?_cons_succ, Option.isNone_some, Option.isNone_none, Bool.not_true, Bool.not_false, Bool.false_eq_true, if_true, if_false, reduceIte, eq_self, not_true_eq_false, not_false_eq_true, bne_self_eq_false, beq_self_eq_true, decide_true, decide_false, decide_eq_true_eq, beq_iff_eq, bne_iff_ne, ne_eq, loadK_C b1]
  refine Pick_spec d.1 3 hw (by omega) ⟨_, rfl, ?_⟩
  simp only [loadK_C b1, derefK_some, fldK_some, Nat.zero_add, Nat.add_zero, Nat.reduceAdd, inj_int, inj_bool, inj_str, inj_ptr, inj_map, inj_slice, exists_eq_left, List.getElem?_toArray, List.getElem?_cons_zero, List.getElem?_cons_succ, Option.isNone_some, Option.isNone_none, Bool.not_true, Bool.not_false, Bool.false_eq_true, if_true, if_false, reduceIte, eq_self, not_true_eq_false, not_false_eq_true, bne_self_eq_false, beq_self_eq_true, decide_true, decide_false, decide_eq_true_eq, beq_iff_eq, bne_iff_ne, ne_eq]
  by_cases h0 : d.1 % 3 = 0
  · rw [if_pos h0]
    refine Write_spec hk hcp hcb hd v _ hr.rows.1 (by omega) (by omega) (fun _ g2 m2 d2 => ⟨_, rfl, H g2 ((m1.trans m2).mono (by simp)) ?_⟩) (fun h => by omega)
    simpa [stepD, h0] using d2
  rw [if_neg h0]
  by_cases h1 : d.1 % 3 = 1
  · rw [if_pos h1]
    refine Sync_spec hk hd (fun g2 m2 d2 => ⟨_, rfl, H g2 ((m1.trans m2).mono (by simp)) ?_⟩)
    simpa [stepD, h1] using d2
  rw [if_neg h1]
  refine Fall_spec hk hd d.2.1 (fun g2 m2 d2 => ⟨_, rfl, H g2 ((m1.trans m2).mono (by simp)) ?_⟩)
  simpa [stepD, h0, h1] using d2

theorem want_eq (safe len : Nat) (keep : Int) (h : safe ≤ len) (hl : len ≤ 1048576) :
    IntKind.i64.wrap ((safe : Int) + (if IntKind.i64.wrap ((len : Int) - (safe : Int)) < (if keep < 0 then 0 else keep) then IntKind.i64.wrap ((len : Int) - (safe : Int)) else (if keep < 0 then 0 else keep))) = ((fallTo safe len keep : Nat) : Int) := by
  rw [wrapI64 (n := (len : Int) - (safe : Int)) (by omega) (by omega), wrapI64 (by split <;> split <;> omega) (by split <;> split <;> omega)]
  unfold fallTo
  split <;> split <;> omega

theorem DiskStays_spec (g : GH) (v : Sl) (l : List Deed) (keep : Int) {c : Nat} (hl : SlC g c ShDeed v l) {R : Value → Heap → Prop} (H : ∀ g' : GH, Mv [] g g' → R (.bool true) g'.h) :
    HC Try.prog F.law25_DiskStays #[.slice v.a v.n v.c, .int .i64 keep] R g.h := by
  refine law25_DiskStays.calls (l0 := v) ?_
  unfold law25_DiskStays.body
  have fin : ∀ (K : List Nat) (q : GH), Mv K g.base q → 0 ∉ K → R (.bool true) q.h := fun K q m h0 => H (g.via q fun _ => 0) (m.via h0 _)
  refine awake_spec g.base fun q1 m1 => ⟨_, rfl, ?_⟩
  try dsimp only
  rw [if_neg (by decide)]
  have m0 : Mv [1, 2, 4, 5] g.base q1 := m1.mono (by simp)
  refine size_spec v l (hl.arg m0 (by simp)) fun n _ hn _ => ⟨_, rfl, ?_⟩
  simp only [derefK_some, fldK_some, Nat.zero_add, Nat.add_zero, Nat.reduceAdd, inj_int, inj_bool, inj_str, inj_ptr, inj_map, inj_slice, exists_eq_left, List.getElem?_toArray, List.getElem?_cons_zero, List.getElem?_cons_succ, Option.isNone_some, Option.isNone_none, Bool.not_true, Bool.not_false, Bool.false_eq_true, if_true, if_false, reduceIte, eq_self, not_true_eq_false, not_false_eq_true, bne_self_eq_false, beq_self_eq_true, decide_true, decide_false, decide_eq_true_eq, beq_iff_eq, bne_iff_ne, ne_eq, derefK_some, fldK_some, Nat.zero_add, Nat.add_zero, Nat.reduceAdd, inj_int, inj_bool, inj_str, inj_ptr, inj_map, inj_slice, exists_eq_left, List.getElem?_toArray, List.getElem?_cons_zero, List.getElem?_cons_succ, Option.isNone_some, Option.isNone_none, Bool.not_true, Bool.not_false, Bool.false_eq_true, if_true, if_false, reduceIte, eq_self, not_true_eq_false, not_false_eq_true, bne_self_eq_false, beq_self_eq_true, decide_true, decide_false, decide_eq_true_eq, beq_iff_eq, bne_iff_ne, ne_eq]
  by_cases hbig : (n : Int) > 2000
  · rw [if_pos hbig]
    exact fin _ _ m0 (by simp)
  rw [if_neg hbig]
  have hsz := hn (by omega)
  refine NewDisk_spec q1 1 2 (by decide) ⟨none, 0, 0⟩ [] (RowsC.nil q1 0 _ _) (by decide) (by decide) (fun p q2 _ m2 d2 => ⟨(_, _), rfl, ?_⟩) (fun _ h => absurd (by decide) h)
  replace m0 := m0.step m2 (by simp)
  simp only [derefK_some, fldK_some, Nat.zero_add, Nat.add_zero, Nat.reduceAdd, inj_int, inj_bool, inj_str, inj_ptr, inj_map, inj_slice, exists_eq_left, List.getElem?_toArray, List.getElem?_cons_zero, List.getElem?_cons_succ, Option.isNone_some, Option.isNone_none, Bool.not_true, Bool.not_false, Bool.false_eq_true, if_true, if_false, reduceIte, eq_self, not_true_eq_false, not_false_eq_true, bne_self_eq_false, beq_self_eq_true, decide_true, decide_false, decide_eq_true_eq, beq_iff_eq, bne_iff_ne, ne_eq]
  have hvn := hl.len
  refine loopW_rule (fun st h' => ∃ (i safe : Nat) (bs : List Int) (q : GH), i ≤ l.length ∧ st = (i : Int) ∧ h' = q.h ∧ Mv [1, 2, 4, 5] g.base q ∧ DiskC q 1 2 p safe bs ∧ bs.length ≤ ((l.map deedSize).take i).sum) (fun st => l.length - st.toNat)
    ⟨0, 0, [], q2, by omega, rfl, rfl, m0, d2, by simp⟩ ?_
  rintro X _ _ ⟨i, safe, bs, q, hi, rfl, rfl, m, d, hbs⟩ hX
  have hsafe : safe ≤ bs.length := by obtain ⟨_, _, _, h, _⟩ := d; exact h
  have hbl : bs.length ≤ 1048576 := by obtain ⟨_, _, _, _, h⟩ := d; exact h
  try simp only [derefK_some, fldK_some, Nat.zero_add, Nat.add_zero, Nat.reduceAdd, inj_int, inj_bool, inj_str, inj_ptr, inj_map, inj_slice, exists_eq_left, List.getElem?_toArray, List.getElem?_cons_zero, List.getElem?_cons_succ, Option.isNone_some, Option.isNone_none, Bool.not_true, Bool.not_false, Bool.false_eq_true, if_true, if_false, reduceIte, eq_self, not_true_eq_false, not_false_eq_true, bne_self_eq_false, beq_self_eq_true, decide_true, decide_false, decide_eq_true_eq, beq_iff_eq, bne_iff_ne, ne_eq]
  by_cases hlt : i < l.length
  · rw [if_pos (by omega)]
    have hst := sum_take (l := l.map deedSize) (i := i) (by simpa using hlt)
    rw [List.getElem_map] at hst
    have hsum : ((l.map deedSize).take (i + 1)).sum ≤ (l.map deedSize).sum := by
      conv => rhs; rw [← List.take_append_drop (i + 1) (l.map deedSize), List.sum_append]
      omega
    unfold deedsSize at hsz
    refine Bytes_spec' q 3 d fun was q3 m3 ow => ⟨was, rfl, ?_⟩
    replace m := m.step m3 (by simp)
    replace d := d.mv m3 (by simp) (by simp)
    refine Synced_spec d ⟨_, rfl, ?_⟩
    try dsimp only
    refine (hl.arg m (by simp)).idx (sizeDeed.trans rfl) (by decide) hlt fun b o cs rc lay => ?_
    obtain ⟨w, rfl, hw, hwh, _⟩ := LayC.deed lay
    refine loadAggK_cells rc (j := 0) rfl (by rw [sizeDeed]; decide) (by rw [sizeDeed]; exact Nat.le_refl 3) ?_
    rw [sizeDeed]
    refine do_spec (by decide) (by decide) (by decide) d l[i] w hw hwh (by omega) fun q4 m4 d4 => ⟨_, rfl, ?_⟩
    replace m := m.step m4 (by simp)
    replace ow := ow.mv m4 (by simp)
    obtain ⟨k1, k2, k3⟩ := stepD_keeps l[i] safe bs hsafe
    have hle := stepD_le l[i] safe bs
    generalize (stepD l[i] safe bs).1 = safe' at d4 k1 k2
    generalize (stepD l[i] safe bs).2 = bs' at d4 k2 k3 hle
    have hbl' : bs'.length ≤ 1048576 := by omega
    refine Bytes_spec' q4 3 d4 fun now q5 m5 on => ⟨now, rfl, ?_⟩
    replace m := m.step m5 (by simp)
    replace ow := ow.mv m5 (by simp)
    replace d4 := d4.mv m5 (by simp) (by simp)
    have hnow := on.len
    have hwas := ow.len
    simp only [List.length_map] at hnow hwas
    have hwc := ow.cap
    have hnc := on.cap
    try simp only [derefK_some, fldK_some, Nat.zero_add, Nat.add_zero, Nat.reduceAdd, inj_int, inj_bool, inj_str, inj_ptr, inj_map, inj_slice, exists_eq_left, List.getElem?_toArray, List.getElem?_cons_zero, List.getElem?_cons_succ, Option.isNone_some, Option.isNone_none, Bool.not_true, Bool.not_false, Bool.false_eq_true, if_true, if_false, reduceIte, eq_self, not_true_eq_false, not_false_eq_true, bne_self_eq_false, beq_self_eq_true, decide_true, decide_false, decide_eq_true_eq, beq_iff_eq, bne_iff_ne, ne_eq]
    rw [if_neg (by omega)]
    refine slice_to on.plain rfl (by omega) ?_
    refine slice_to ow.plain rfl (by omega) ?_
    have e1 := on.rd.take (n := safe) (k := now.c) (by simp; omega)
    have e2 := ow.rd.take (n := safe) (k := was.c) (by simp; omega)
    rw [← List.map_take] at e1 e2
    refine ⟨_, SameBytes_spec ⟨now.a, safe, now.c⟩ ⟨was.a, safe, was.c⟩ _ _ e1.rd e2.rd (by simp; omega) (by simp; omega) ⟨rfl, rfl⟩, ?_⟩
    rw [decide_eq_true k3]
    try simp only [derefK_some, fldK_some, Nat.zero_add, Nat.add_zero, Nat.reduceAdd, inj_int, inj_bool, inj_str, inj_ptr, inj_map, inj_slice, exists_eq_left, List.getElem?_toArray, List.getElem?_cons_zero, List.getElem?_cons_succ, Option.isNone_some, Option.isNone_none, Bool.not_true, Bool.not_false, Bool.false_eq_true, if_true, if_false, reduceIte, eq_self, not_true_eq_false, not_false_eq_true, bne_self_eq_false, beq_self_eq_true, decide_true, decide_false, decide_eq_true_eq, beq_iff_eq, bne_iff_ne, ne_eq]
    refine ⟨_, Synced_spec d4 ⟨rfl, rfl⟩, ?_⟩
    try simp only [derefK_some, fldK_some, Nat.zero_add, Nat.add_zero, Nat.reduceAdd, inj_int, inj_bool, inj_str, inj_ptr, inj_map, inj_slice, exists_eq_left, List.getElem?_toArray, List.getElem?_cons_zero, List.getElem?_cons_succ, Option.isNone_some, Option.isNone_none, Bool.not_true, Bool.not_false, Bool.false_eq_true, if_true, if_false, reduceIte, eq_self, not_true_eq_false, not_false_eq_true, bne_self_eq_false, beq_self_eq_true, decide_true, decide_false, decide_eq_true_eq, beq_iff_eq, bne_iff_ne, ne_eq]
    rw [if_neg (by omega)]
    refine ⟨_, Synced_spec d4 ⟨rfl, rfl⟩, ?_⟩
    try simp only [derefK_some, fldK_some, Nat.zero_add, Nat.add_zero, Nat.reduceAdd, inj_int, inj_bool, inj_str, inj_ptr, inj_map, inj_slice, exists_eq_left, List.getElem?_toArray, List.getElem?_cons_zero, List.getElem?_cons_succ, Option.isNone_some, Option.isNone_none, Bool.not_true, Bool.not_false, Bool.false_eq_true, if_true, if_false, reduceIte, eq_self, not_true_eq_false, not_false_eq_true, bne_self_eq_false, beq_self_eq_true, decide_true, decide_false, decide_eq_true_eq, beq_iff_eq, bne_iff_ne, ne_eq]
    rw [if_neg (by omega)]
    refine Copy_spec q5 4 5 d4 fun p' q6 m6 d6 => ⟨_, rfl, ?_⟩
    try dsimp only
    replace m := m.step m6 (by simp)
    replace d4 := d4.mv m6 (by simp) (by simp)
    replace on := on.mv m6 (by simp)
    refine Fall_spec (by decide) d6 keep fun q7 m7 d7 => ⟨_, rfl, ?_⟩
    replace m := m.step m7 (by simp)
    replace d4 := d4.mv m7 (by simp) (by simp)
    replace on := on.mv m7 (by simp)
    simp only [derefK_some, fldK_some, Nat.zero_add, Nat.add_zero, Nat.reduceAdd, inj_int, inj_bool, inj_str, inj_ptr, inj_map, inj_slice, exists_eq_left, List.getElem?_toArray, List.getElem?_cons_zero, List.getElem?_cons_succ, Option.isNone_some, Option.isNone_none, Bool.not_true, Bool.not_false, Bool.false_eq_true, if_true, if_false, reduceIte, eq_self, not_true_eq_false, not_false_eq_true, bne_self_eq_false, beq_self_eq_true, decide_true, decide_false, decide_eq_true_eq, beq_iff_eq, bne_iff_ne, ne_eq]
    refine Bytes_spec' q7 3 d7 fun left q8 m8 ol => ⟨_, rfl, ?_⟩
    try dsimp only
    replace m := m.step m8 (by simp)
    replace d4 := d4.mv m8 (by simp) (by simp)
    replace d7 := d7.mv m8 (by simp) (by simp)
    replace on := on.mv m8 (by simp)
    have hleft := ol.len
    simp only [List.length_map, List.length_take] at hleft
    refine Synced_spec d4 ⟨_, rfl, ?_⟩
    refine Synced_spec d4 ⟨_, rfl, ?_⟩
    try dsimp only
    have hwq := want_eq safe' now.n keep (by omega) (by omega)
    have hfe : fallTo safe' now.n keep = fallTo safe' bs'.length keep := by rw [hnow]
    rw [hfe] at hwq
    rw [hwq]
    have hf : fallTo safe' bs'.length keep ≤ bs'.length := by unfold fallTo; omega
    try simp only [derefK_some, fldK_some, Nat.zero_add, Nat.add_zero, Nat.reduceAdd, inj_int, inj_bool, inj_str, inj_ptr, inj_map, inj_slice, exists_eq_left, List.getElem?_toArray, List.getElem?_cons_zero, List.getElem?_cons_succ, Option.isNone_some, Option.isNone_none, Bool.not_true, Bool.not_false, Bool.false_eq_true, if_true, if_false, reduceIte, eq_self, not_true_eq_false, not_false_eq_true, bne_self_eq_false, beq_self_eq_true, decide_true, decide_false, decide_eq_true_eq, beq_iff_eq, bne_iff_ne, ne_eq]
    rw [if_neg (by omega)]
    refine slice_to on.plain rfl (by omega) ?_
    have e3 := on.rd.take (n := fallTo safe' bs'.length keep) (k := now.c) (by simp; omega)
    rw [← List.map_take] at e3
    refine SameBytes_spec left ⟨now.a, _, now.c⟩ _ _ ol.rd.rd e3.rd (by simp; omega) (by simp; omega) ⟨_, rfl, ?_⟩
    rw [decide_eq_true rfl]
    try simp only [derefK_some, fldK_some, Nat.zero_add, Nat.add_zero, Nat.reduceAdd, inj_int, inj_bool, inj_str, inj_ptr, inj_map, inj_slice, exists_eq_left, List.getElem?_toArray, List.getElem?_cons_zero, List.getElem?_cons_succ, Option.isNone_some, Option.isNone_none, Bool.not_true, Bool.not_false, Bool.false_eq_true, if_true, if_false, reduceIte, eq_self, not_true_eq_false, not_false_eq_true, bne_self_eq_false, beq_self_eq_true, decide_true, decide_false, decide_eq_true_eq, beq_iff_eq, bne_iff_ne, ne_eq]
    refine Synced_spec d7 ⟨_, rfl, ?_⟩
    simp only [derefK_some, fldK_some, Nat.zero_add, Nat.add_zero, Nat.reduceAdd, inj_int, inj_bool, inj_str, inj_ptr, inj_map, inj_slice, exists_eq_left, List.getElem?_toArray, List.getElem?_cons_zero, List.getElem?_cons_succ, Option.isNone_some, Option.isNone_none, Bool.not_true, Bool.not_false, Bool.false_eq_true, if_true, if_false, reduceIte, eq_self, not_true_eq_false, not_false_eq_true, bne_self_eq_false, beq_self_eq_true, decide_true, decide_false, decide_eq_true_eq, beq_iff_eq, bne_iff_ne, ne_eq]
    refine Bytes_spec' q8 3 d4 fun again q9 m9 oa => ⟨_, rfl, ?_⟩
    try dsimp only
    replace m := m.step m9 (by simp)
    replace d4 := d4.mv m9 (by simp) (by simp)
    replace on := on.mv m9 (by simp)
    refine SameBytes_spec again now _ _ oa.rd.rd on.rd.rd (by omega) (by omega) ⟨_, rfl, ?_⟩
    rw [decide_eq_true rfl, wrapSucc (by omega)]
    try simp only [derefK_some, fldK_some, Nat.zero_add, Nat.add_zero, Nat.reduceAdd, inj_int, inj_bool, inj_str, inj_ptr, inj_map, inj_slice, exists_eq_left, List.getElem?_toArray, List.getElem?_cons_zero, List.getElem?_cons_succ, Option.isNone_some, Option.isNone_none, Bool.not_true, Bool.not_false, Bool.false_eq_true, if_true, if_false, reduceIte, eq_self, not_true_eq_false, not_false_eq_true, bne_self_eq_false, beq_self_eq_true, decide_true, decide_false, decide_eq_true_eq, beq_iff_eq, bne_iff_ne, ne_eq]
    refine hX _ _ ⟨i + 1, safe', bs', q9, by omega, rfl, rfl, m, d4, by omega⟩ (by simp; omega)
  · rw [if_neg (by omega)]
    refine Bytes_spec' q 3 d fun was q3 m3 ow => ⟨was, rfl, ?_⟩
    replace m := m.step m3 (by simp)
    replace d := d.mv m3 (by simp) (by simp)
    refine Sync_spec (by decide) d fun q4 m4 d4 => ⟨_, rfl, ?_⟩
    refine Fall_spec (by decide) d4 keep fun q5 m5 d5 => ⟨_, rfl, ?_⟩
    refine Bytes_spec' q5 3 d5 fun now q6 m6 on => ⟨_, rfl, ?_⟩
    try dsimp only
    have hff : fallTo bs.length bs.length keep = bs.length := by unfold fallTo; omega
    rw [hff, List.take_length] at on
    replace ow := ((ow.mv m4 (by simp)).mv m5 (by simp)).mv m6 (by simp)
    replace m := ((m.step m4 (by simp)).step m5 (by simp)).step m6 (by simp)
    refine SameBytes_spec now was _ _ on.rd.rd ow.rd.rd (by omega) (by omega) ⟨_, rfl, ?_⟩
    rw [decide_eq_true rfl]
    exact fin _ _ m (by simp)

theorem DiskStays_walk {h : Heap} (a : Option Addr) (len cap : Nat) (l : List Deed) (w : Lay h (.sl ShDeed) l [.slice a len cap]) (k : Int) (_ : (Lit.int .i64 k).wf = true) :
    HC Try.prog F.law25_DiskStays #[.slice a len cap, .int .i64 k] (fun v h' => v = .bool true ∧ Ext h h') h :=
  DiskStays_spec ⟨h, fun _ => 0⟩ ⟨a, len, cap⟩ l k (c := 0) (w.arg (Mv.refl [] _) (by simp)) fun g' m => ⟨rfl, m.ext (by simp)⟩
end Go.Proofs.Ytmejgndgojfcaaa
