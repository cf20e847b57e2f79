/-
  The law DiskDoes: what it answers.
-/
import Derived.Test.YtmejgndgojfcaaaKRef25
set_option linter.unusedSimpArgs false
set_option linter.unusedVariables false
namespace Go.Proofs.Ytmejgndgojfcaaa
open Go Go.Ev

theorem buildSl_Deed1 (x : Sl) (w : World) : (Instr.buildSlice T.sl_zugzwanglaw25_Deed 1 #[(0, .agg #[.int .i64 0, .int .i64 0, slV x])]).run Try.prog w =
    .ok (.slice (some ⟨w.heap.size, 0, none⟩) 1 1) { w with heap := w.heap.push (.cells #[.int .i64 0, .int .i64 0, slV x] T.zugzwanglaw25_Deed (0, 0)) } := by kernel_rfl

theorem fall_eq (A B : List Int) (n : Int) : fallTo A.length (A ++ B).length n = (A ++ B.take (min n.toNat B.length)).length ∧ (A ++ B).take (fallTo A.length (A ++ B).length n) = A ++ B.take (min n.toNat B.length) := by
  have h : fallTo A.length (A ++ B).length n = A.length + min n.toNat B.length := by unfold fallTo; rw [List.length_append]; omega
  rw [h]
  refine ⟨by rw [List.length_append, List.length_take]; omega, ?_⟩
  rw [List.take_append, List.take_of_length_le (by omega)]
  congr 2
  omega

theorem deedsSize_one (a : List (List Int)) (x y : Int) : deedsSize [(x, y, a, ())] = 1 + (a.length + total a) := by
  simp [deedsSize, deedSize]

theorem deed_le {l : List Deed} {i : Nat} (h : i < l.length) : deedSize l[i] ≤ deedsSize l := by
  unfold deedsSize
  have := le_of_mem_sum (L := l.map deedSize) (x := deedSize l[i]) (List.mem_map.2 ⟨_, List.getElem_mem h, rfl⟩)
  omega
theorem row_le {xss : List (List Int)} {x : List Int} (h : x ∈ xss) : x.length ≤ total xss := by
  unfold total
  rw [List.length_flatten]
  exact le_of_mem_sum (List.mem_map.2 ⟨_, h, rfl⟩)

set_option maxHeartbeats 1000000 in
theorem DiskDoes_spec (g : GH) (vr vl : Sl) (rows : List (List Int)) (l : List Deed) {c d : Nat} (hr : SlC g c (.sl (.int .u8)) vr rows) (hl : SlC g d ShDeed vl l) {R : Value → Heap → Prop} (H : ∀ g' : GH, Mv [] g g' → R (.bool true) g'.h) :
    HC Try.prog F.law25_DiskDoes #[.slice vr.a vr.n vr.c, .slice vl.a vl.n vl.c] R g.h := by
  refine law25_DiskDoes.calls (rows0 := vr) (l1 := vl) ?_
  unfold law25_DiskDoes.body
  have fin : ∀ (K : List Nat) (q : GH), Mv K g.base q → 0 ∉ K → R (.bool true) q.h := fun K q m h0 => H (g.via q fun _ => 0) (m.via h0 _)
  have m := Mv.refl [1, 2, 3, 4, 5, 6, 7] g.base
  refine size_spec (g := g.base) vl l (hl.arg m (by simp)) fun n1 hn1 hs1 _ => ⟨_, rfl, ?_⟩
  dsimp only
  refine ⟨_, build_Deed vr, ?_⟩
  refine buildSl_C (e := T.zugzwanglaw25_Deed) (sz := 3) g.base 0 _ (buildSl_Deed1 vr) rfl fun s q1 m1 o1 hsn hsc => ?_
  replace m := m.step m1 (by simp)
  have ls : SlC q1 0 ShDeed s [(0, 0, rows, ())] := SlC.one (by omega) hsn o1.rd (LayC.mkDeed (hr.arg m (by simp)) 0 0 (by omega) (by omega))
  refine size_spec s _ ls fun n2 hn2 hs2 _ => ⟨_, rfl, ?_⟩
  dsimp only
  rw [wrapI64 (by omega) (by omega)]
  try simp only [derefK_some, fldK_some, Nat.zero_add, Nat.add_zero, Nat.reduceAdd, inj_int, inj_bool, inj_str, inj_ptr, inj_map, inj_slice, exists_eq_left, List.getElem?_toArray, List.getElem?_cons_zero, List.getElem?_cons_succ, Option.isNone_some, Option.isNone_none, Bool.not_true, Bool.not_false, Bool.false_eq_true, if_true, if_false, reduceIte, eq_self, not_true_eq_false, not_false_eq_true, bne_self_eq_false, beq_self_eq_true, decide_true, decide_false, decide_eq_true_eq, beq_iff_eq, bne_iff_ne, ne_eq]
  by_cases hbig : (n1 : Int) + (n2 : Int) > 2000
  · rw [if_pos hbig]
    exact awake_spec q1 fun q2 m2 => ⟨_, rfl, fin _ _ (m.step m2 (by simp)) (by simp)⟩
  rw [if_neg hbig]
  have hz1 := hs1 (by omega)
  have hlb : l.length ≤ 2000 := by unfold deedsSize at hz1; omega
  have hz2 : rows.length + total rows ≤ 2000 := by
    have := hs2 (by omega)
    rw [deedsSize_one] at this
    omega
  refine LentByteRows_C q1 5 vr rows (hr.arg m (by simp)).rows.1 (by omega) (fun x hx => by have := row_le hx; omega) fun sin q2 m2 lin => ⟨_, rfl, ?_⟩
  dsimp only
  replace m := m.step m2 (by simp)
  refine NewDisk_spec q2 1 2 (by decide) sin rows lin.rows (by omega) (by omega) (fun p q3 _ m3 d3 => ⟨(_, _), rfl, ?_⟩) (fun _ h => absurd (by omega) h)
  replace m := m.step m3 (by simp)
  dsimp only
  refine NewRef_spec q3 3 4 (by decide) vr rows (hr.arg m (by simp)).rows.1 (by omega) (by omega) (fun pr q4 _ m4 r4 => ⟨(_, _), rfl, ?_⟩) (fun _ h => absurd (by omega) h)
  replace m := m.step m4 (by simp)
  replace d3 := d3.mv m4 (by simp) (by simp)
  replace lin := (lin.mv m3 (by simp)).mv m4 (by simp)
  try simp only [derefK_some, fldK_some, Nat.zero_add, Nat.add_zero, Nat.reduceAdd, inj_int, inj_bool, inj_str, inj_ptr, inj_map, inj_slice, exists_eq_left, List.getElem?_toArray, List.getElem?_cons_zero, List.getElem?_cons_succ, Option.isNone_some, Option.isNone_none, Bool.not_true, Bool.not_false, Bool.false_eq_true, if_true, if_false, reduceIte, eq_self, not_true_eq_false, not_false_eq_true, bne_self_eq_false, beq_self_eq_true, decide_true, decide_false, decide_eq_true_eq, beq_iff_eq, bne_iff_ne, ne_eq]
  refine KeptByteRows_C sin vr rows lin (hr.arg m (by simp)).rows.1 (by omega) (fun x hx => by have := row_le hx; omega) ⟨_, rfl, ?_⟩
  try simp only [derefK_some, fldK_some, Nat.zero_add, Nat.add_zero, Nat.reduceAdd, inj_int, inj_bool, inj_str, inj_ptr, inj_map, inj_slice, exists_eq_left, List.getElem?_toArray, List.getElem?_cons_zero, List.getElem?_cons_succ, Option.isNone_some, Option.isNone_none, Bool.not_true, Bool.not_false, Bool.false_eq_true, if_true, if_false, reduceIte, eq_self, not_true_eq_false, not_false_eq_true, bne_self_eq_false, beq_self_eq_true, decide_true, decide_false, decide_eq_true_eq, beq_iff_eq, bne_iff_ne, ne_eq]
  have d3' : DiskC q4 1 2 p rows.flatten.length (rows.flatten ++ []) := by rw [List.append_nil]; exact d3
  refine same_spec q4 d3' r4 fun q5 m5 => ⟨_, rfl, ?_⟩
  replace m := m.step m5 (by simp)
  replace d3' := d3'.mv m5 (by simp) (by simp)
  replace r4 := r4.mv m5 (by simp) (by simp)
  try simp only [derefK_some, fldK_some, Nat.zero_add, Nat.add_zero, Nat.reduceAdd, inj_int, inj_bool, inj_str, inj_ptr, inj_map, inj_slice, exists_eq_left, List.getElem?_toArray, List.getElem?_cons_zero, List.getElem?_cons_succ, Option.isNone_some, Option.isNone_none, Bool.not_true, Bool.not_false, Bool.false_eq_true, if_true, if_false, reduceIte, eq_self, not_true_eq_false, not_false_eq_true, bne_self_eq_false, beq_self_eq_true, decide_true, decide_false, decide_eq_true_eq, beq_iff_eq, bne_iff_ne, ne_eq]
  have hln := hl.len
  refine loopW_rule (fun st h' => ∃ (i p : Nat) (A B : List Int) (q : GH), i ≤ l.length ∧ st = (some ⟨p, 0, none⟩, (i : Int)) ∧ h' = q.h ∧ Mv [1, 2, 3, 4, 5, 6, 7] g.base q ∧ DiskC q 1 2 p A.length (A ++ B) ∧ RefC q 3 4 pr A B) (fun st => l.length - st.2.toNat)
    ⟨0, p, rows.flatten, [], q5, by omega, rfl, rfl, m, d3', r4⟩ ?_
  clear d3' r4 m lin d3
  rintro X _ _ ⟨i, p, A, B, q, hi, rfl, rfl, m, dd, rr⟩ hX
  dsimp only
  by_cases hlt : i < l.length
  · rw [if_pos (by omega)]
    have hdl := deed_le hlt
    unfold deedSize at hdl
    refine (hl.arg m (by simp)).idx (sizeDeed.trans rfl) (by decide) hlt fun b o cs rc lay => ?_
    obtain ⟨w, rfl, hw, hwh, hnn⟩ := LayC.deed lay
    try simp only [derefK_some, fldK_some, Nat.zero_add, Nat.add_zero, Nat.reduceAdd, inj_int, inj_bool, inj_str, inj_ptr, inj_map, inj_slice, exists_eq_left, List.getElem?_toArray, List.getElem?_cons_zero, List.getElem?_cons_succ, Option.isNone_some, Option.isNone_none, Bool.not_true, Bool.not_false, Bool.false_eq_true, if_true, if_false, reduceIte, eq_self, not_true_eq_false, not_false_eq_true, bne_self_eq_false, beq_self_eq_true, decide_true, decide_false, decide_eq_true_eq, beq_iff_eq, bne_iff_ne, ne_eq]
    refine loadK_cells rc (k := .slice) (j := 2) w rfl rfl ?_
    refine LentByteRows_C q 7 w _ hw.rows.1 (by omega) (fun x hx => by have := row_le hx; omega) fun x q1 m1 lx => ⟨_, rfl, ?_⟩
    replace m := m.step m1 (by simp)
    replace dd := dd.mv m1 (by simp) (by simp)
    replace rr := rr.mv m1 (by simp) (by simp)
    dsimp only
    refine joinW_intro (fun s h => s.2 = true ∧ ∃ (p : Nat) (A B : List Int) (q : GH), s.1 = some ⟨p, 0, none⟩ ∧ h = q.h ∧ Mv [1, 2, 3, 4, 5, 6, 7] g.base q ∧ DiskC q 1 2 p A.length (A ++ B) ∧ RefC q 3 4 pr A B ∧ LentRowsC q 7 x l[i].2.2.1) (fun J hJ => ?_) ?_
    · refine (hl.arg m (by simp)).idx (sizeDeed.trans rfl) (by decide) hlt fun b o cs rc lay => ?_
      obtain ⟨w, rfl, hw, hwh, hnn⟩ := LayC.deed lay
      try simp only [derefK_some, fldK_some, Nat.zero_add, Nat.add_zero, Nat.reduceAdd, inj_int, inj_bool, inj_str, inj_ptr, inj_map, inj_slice, exists_eq_left, List.getElem?_toArray, List.getElem?_cons_zero, List.getElem?_cons_succ, Option.isNone_some, Option.isNone_none, Bool.not_true, Bool.not_false, Bool.false_eq_true, if_true, if_false, reduceIte, eq_self, not_true_eq_false, not_false_eq_true, bne_self_eq_false, beq_self_eq_true, decide_true, decide_false, decide_eq_true_eq, beq_iff_eq, bne_iff_ne, ne_eq]
      refine loadK_cells rc (k := .int .i64) (j := 0) l[i].1 rfl rfl ?_
      refine Pick_spec l[i].1 5 hwh (by omega) ⟨_, rfl, ?_⟩
      dsimp only
      by_cases h0 : l[i].1 % 5 = 0
      · rw [if_pos h0]
        refine (hl.arg m (by simp)).idx (sizeDeed.trans rfl) (by decide) hlt fun b o cs rc lay => ?_
        obtain ⟨w, rfl, hw, _, _⟩ := LayC.deed lay
        try simp only [derefK_some, fldK_some, Nat.zero_add, Nat.add_zero, Nat.reduceAdd, inj_int, inj_bool, inj_str, inj_ptr, inj_map, inj_slice, exists_eq_left, List.getElem?_toArray, List.getElem?_cons_zero, List.getElem?_cons_succ, Option.isNone_some, Option.isNone_none, Bool.not_true, Bool.not_false, Bool.false_eq_true, if_true, if_false, reduceIte, eq_self, not_true_eq_false, not_false_eq_true, bne_self_eq_false, beq_self_eq_true, decide_true, decide_false, decide_eq_true_eq, beq_iff_eq, bne_iff_ne, ne_eq]
        refine loadK_cells rc (k := .slice) (j := 2) w rfl rfl ?_
        refine Write_spec (by decide) (by decide) (by decide) dd x _ lx.rows (by omega) (by omega) (fun hfit q2 m2 d2 => ⟨_, rfl, ?_⟩) (fun hfit => ⟨_, rfl, ?_⟩)
        · refine ⟨stillK_cells (rc.mv m2 (by simp)) (k := .slice) (x := w) (j := 2) rfl rfl, ?_⟩
          refine RefWrite_spec (by decide) (rr.mv m2 (by simp) (by simp)) w _ (hw.mv m2 (by simp)).rows.1 (by omega) (by omega) (fun _ q3 m3 r3 => ⟨_, rfl, ?_⟩) (fun h => absurd hfit h)
          refine hJ _ _ ⟨rfl, p, A, B ++ _, q3, rfl, rfl, (m.step m2 (by simp)).step m3 (by simp), ?_, r3, (lx.mv m2 (by simp)).mv m3 (by simp)⟩
          rw [← List.append_assoc]
          exact d2.mv m3 (by simp) (by simp)
        · refine ⟨stillK_cells rc (k := .slice) (x := w) (j := 2) rfl rfl, ?_⟩
          refine RefWrite_spec (by decide) rr w _ hw.rows.1 (by omega) (by omega) (fun h => absurd h hfit) (fun _ q3 m3 => ⟨_, rfl, ?_⟩)
          exact hJ _ _ ⟨rfl, p, A, B, q3, rfl, rfl, m.step m3 (by simp), dd.mv m3 (by simp) (by simp), rr.mv m3 (by simp) (by simp), lx.mv m3 (by simp)⟩
      rw [if_neg h0]
      by_cases h1 : l[i].1 % 5 = 1
      · rw [if_pos h1]
        refine Sync_spec (by decide) dd fun q2 m2 d2 => ⟨_, rfl, ?_⟩
        refine RefSync_spec (by decide) (rr.mv m2 (by simp) (by simp)) fun q3 m3 r3 => ⟨(), rfl, ?_⟩
        refine hJ _ _ ⟨rfl, p, A ++ B, [], q3, rfl, rfl, (m.step m2 (by simp)).step m3 (by simp), ?_, r3, (lx.mv m2 (by simp)).mv m3 (by simp)⟩
        rw [List.append_nil]
        exact d2.mv m3 (by simp) (by simp)
      rw [if_neg h1]
      by_cases h2 : l[i].1 % 5 = 2
      · rw [if_pos h2]
        refine (hl.arg m (by simp)).idx (sizeDeed.trans rfl) (by decide) hlt fun b o cs rc lay => ?_
        obtain ⟨w, rfl, hw, _, _⟩ := LayC.deed lay
        try simp only [derefK_some, fldK_some, Nat.zero_add, Nat.add_zero, Nat.reduceAdd, inj_int, inj_bool, inj_str, inj_ptr, inj_map, inj_slice, exists_eq_left, List.getElem?_toArray, List.getElem?_cons_zero, List.getElem?_cons_succ, Option.isNone_some, Option.isNone_none, Bool.not_true, Bool.not_false, Bool.false_eq_true, if_true, if_false, reduceIte, eq_self, not_true_eq_false, not_false_eq_true, bne_self_eq_false, beq_self_eq_true, decide_true, decide_false, decide_eq_true_eq, beq_iff_eq, bne_iff_ne, ne_eq]
        refine loadK_cells rc (k := .int .i64) (j := 1) l[i].2.1 rfl rfl ?_
        refine Fall_spec (by decide) dd _ fun q2 m2 d2 => ⟨_, rfl, ?_⟩
        replace m := m.step m2 (by simp)
        try dsimp only
        refine (hl.arg m (by simp)).idx (sizeDeed.trans rfl) (by decide) hlt fun b o cs rc lay => ?_
        obtain ⟨w, rfl, hw, _, _⟩ := LayC.deed lay
        try simp only [derefK_some, fldK_some, Nat.zero_add, Nat.add_zero, Nat.reduceAdd, inj_int, inj_bool, inj_str, inj_ptr, inj_map, inj_slice, exists_eq_left, List.getElem?_toArray, List.getElem?_cons_zero, List.getElem?_cons_succ, Option.isNone_some, Option.isNone_none, Bool.not_true, Bool.not_false, Bool.false_eq_true, if_true, if_false, reduceIte, eq_self, not_true_eq_false, not_false_eq_true, bne_self_eq_false, beq_self_eq_true, decide_true, decide_false, decide_eq_true_eq, beq_iff_eq, bne_iff_ne, ne_eq]
        refine loadK_cells rc (k := .int .i64) (j := 1) l[i].2.1 rfl rfl ?_
        refine RefFall_spec (by decide) (rr.mv m2 (by simp) (by simp)) _ fun q3 m3 r3 => ⟨(), rfl, ?_⟩
        refine hJ _ _ ⟨rfl, p, _, [], q3, rfl, rfl, m.step m3 (by simp), ?_, r3, (lx.mv m2 (by simp)).mv m3 (by simp)⟩
        obtain ⟨e1, e2⟩ := fall_eq A B l[i].2.1
        rw [e2, e1] at d2
        rw [List.append_nil]
        exact d2.mv m3 (by simp) (by simp)
      rw [if_neg h2]
      by_cases h3 : l[i].1 % 5 = 3
      · rw [if_pos h3]
        refine (hl.arg m (by simp)).idx (sizeDeed.trans rfl) (by decide) hlt fun b o cs rc lay => ?_
        obtain ⟨w, rfl, hw, _, _⟩ := LayC.deed lay
        try simp only [derefK_some, fldK_some, Nat.zero_add, Nat.add_zero, Nat.reduceAdd, inj_int, inj_bool, inj_str, inj_ptr, inj_map, inj_slice, exists_eq_left, List.getElem?_toArray, List.getElem?_cons_zero, List.getElem?_cons_succ, Option.isNone_some, Option.isNone_none, Bool.not_true, Bool.not_false, Bool.false_eq_true, if_true, if_false, reduceIte, eq_self, not_true_eq_false, not_false_eq_true, bne_self_eq_false, beq_self_eq_true, decide_true, decide_false, decide_eq_true_eq, beq_iff_eq, bne_iff_ne, ne_eq]
        refine (hl.arg m (by simp)).idx (sizeDeed.trans rfl) (by decide) hlt fun b o cs rc' lay => ?_
        obtain ⟨w, rfl, hw, _, _⟩ := LayC.deed lay
        try simp only [derefK_some, fldK_some, Nat.zero_add, Nat.add_zero, Nat.reduceAdd, inj_int, inj_bool, inj_str, inj_ptr, inj_map, inj_slice, exists_eq_left, List.getElem?_toArray, List.getElem?_cons_zero, List.getElem?_cons_succ, Option.isNone_some, Option.isNone_none, Bool.not_true, Bool.not_false, Bool.false_eq_true, if_true, if_false, reduceIte, eq_self, not_true_eq_false, not_false_eq_true, bne_self_eq_false, beq_self_eq_true, decide_true, decide_false, decide_eq_true_eq, beq_iff_eq, bne_iff_ne, ne_eq]
        refine loadK_cells rc (k := .int .i64) (j := 1) l[i].2.1 rfl rfl ?_
        refine loadK_cells rc' (k := .int .i64) (j := 1) l[i].2.1 rfl rfl ?_
        refine Cut_spec (by decide) dd _ (fun hfit q2 m2 d2 => ⟨_, rfl, ?_⟩) (fun hfit => ⟨_, rfl, ?_⟩)
        · refine ⟨stillK_cells (rc'.mv m2 (by simp)) (k := .int .i64) (x := l[i].2.1) (j := 1) rfl rfl, ?_⟩
          refine RefCut_spec (by decide) (rr.mv m2 (by simp) (by simp)) _ (fun _ q3 m3 r3 => ⟨_, rfl, ?_⟩) (fun h => absurd hfit h)
          refine hJ _ _ ⟨rfl, p, _, [], q3, rfl, rfl, (m.step m2 (by simp)).step m3 (by simp), ?_, r3, (lx.mv m2 (by simp)).mv m3 (by simp)⟩
          have e : l[i].2.1.toNat = ((A ++ B).take l[i].2.1.toNat).length := by rw [List.length_take]; omega
          rw [List.append_nil, ← e]
          exact d2.mv m3 (by simp) (by simp)
        · refine ⟨stillK_cells rc' (k := .int .i64) (x := l[i].2.1) (j := 1) rfl rfl, ?_⟩
          refine RefCut_spec (by decide) rr _ (fun h => absurd h hfit) (fun _ => ⟨_, rfl, ?_⟩)
          exact hJ _ _ ⟨rfl, p, A, B, q1, rfl, rfl, m, dd, rr, lx⟩
      rw [if_neg h3]
      by_cases h4 : l[i].1 % 5 = 4
      · rw [if_pos h4]
        obtain ⟨x1, hx1, hxn1⟩ := fresh_exists q1 [1, 2, 3, 4, 5, 6, 7]
        obtain ⟨x2, hx2, hxn2⟩ := fresh_exists q1 [x1, 1, 2, 3, 4, 5, 6, 7]
        simp only [List.mem_cons, List.mem_nil_iff, or_false, not_or] at hxn1 hxn2
        refine Copy_spec q1 x1 x2 dd fun p' q2 m2 d2 => ⟨_, rfl, ?_⟩
        try dsimp only
        refine newSl_C q2 6 rfl fun s1 q3 m3 o3 hn3 hc3 => ?_
        refine newSl_C q3 6 rfl fun s2 q4 m4 o4 hn4 hc4 => ?_
        have rw4 : RowsC q4 6 s2 [[9]] := RowsC.one o4.rd (o3.rd.mv m4 (by simp)) (by omega)
        have m14 : Mv [1, 2] q1 q4 := ((m2.mono (by simp) : Mv [1, 2] q1 q2).step m3 (by simp)).step m4 (by simp)
        have d4 := ((dd.mv m2 (by simp) (by simp)).mv m3 (by simp) (by simp)).mv m4 (by simp) (by simp)
        have key : ∀ (q6 : GH) (safe : Nat) (bs : List Int), Mv [1, 2] q1 q6 → DiskC q6 x1 x2 p' A.length (A ++ B) → DiskC q6 1 2 p safe bs → J (some ⟨p', 0, none⟩, true) q6.h := fun q6 safe bs m6 d6 _ => by
          have dn := d6.re m6 (φ := reTwo x1 x2 1 2) (.inr hx1) (.inr hx2)
          have rn := (rr.mv m6 (by simp) (by simp)).re m6 (φ := reTwo x1 x2 1 2) (.inl (reTwo_ne (by omega) (by omega))) (.inl (reTwo_ne (by omega) (by omega)))
          have ln := (lx.mv m6 (by simp)).re m6 (φ := reTwo x1 x2 1 2) (.inl (reTwo_ne (by omega) (by omega)))
          rw [reTwo_fst, reTwo_snd _ _ (by omega)] at dn
          rw [reTwo_ne (by omega) (by omega), reTwo_ne (by omega) (by omega)] at rn
          rw [reTwo_ne (by omega) (by omega)] at ln
          have mm : Mv [1, 2] q1 (q1.via q6 (reTwo x1 x2 1 2)) := m6.re _ (by simp)
          exact hJ _ _ ⟨rfl, p', A, B, q1.via q6 (reTwo x1 x2 1 2), rfl, rfl, m.step mm (by simp), dn, rn, ln⟩
        have fallCut : ∀ (q5 : GH) (safe : Nat) (bs : List Int), Mv [1, 2] q1 q5 → DiskC q5 x1 x2 p' A.length (A ++ B) → DiskC q5 1 2 p safe bs →
            callK Try.prog (.int .i64) F.disk_Disk_Fall #[.pointer (some ⟨p, 0, none⟩), .int .i64 0] (fun _ h => callK Try.prog (.int .i64) F.disk_Disk_Cut #[.pointer (some ⟨p, 0, none⟩), .int .i64 0] (fun _ h => J (some ⟨p', 0, none⟩, true) h) h) q5.h := fun q5 safe bs m5 d5 e5 => by
          refine Fall_spec (by decide) e5 0 fun q6 m6 e6 => ⟨_, rfl, ?_⟩
          dsimp only
          refine Cut_spec (by decide) e6 0 (fun _ q7 m7 e7 => ⟨_, rfl, ?_⟩) (fun h => absurd (by simp) h)
          exact key q7 _ _ ((m5.step m6 (by simp)).step m7 (by simp)) ((d5.mv m6 (by simp; omega) (by simp; omega)).mv m7 (by simp; omega) (by simp; omega)) e7
        have d2' := (d2.mv m3 (by simp) (by simp)).mv m4 (by simp) (by simp)
        refine Write_spec (by decide) (by decide) (by decide) d4 s2 _ rw4 (by decide) (by decide) (fun _ q5 m5 d5 => ⟨_, rfl, ?_⟩) (fun _ => ⟨_, rfl, ?_⟩)
        · exact fallCut q5 _ _ (m14.step m5 (by simp)) (d2'.mv m5 (by simp; omega) (by simp; omega)) d5
        · exact fallCut q4 _ _ m14 d2' d4
      rw [if_neg h4]
      exact hJ _ _ ⟨rfl, p, A, B, q1, rfl, rfl, m, dd, rr, lx⟩
    · rintro ⟨_, _⟩ _ ⟨rfl, p, A, B, q, rfl, rfl, m, dd, rr, lx⟩
      try simp only [derefK_some, fldK_some, Nat.zero_add, Nat.add_zero, Nat.reduceAdd, inj_int, inj_bool, inj_str, inj_ptr, inj_map, inj_slice, exists_eq_left, List.getElem?_toArray, List.getElem?_cons_zero, List.getElem?_cons_succ, Option.isNone_some, Option.isNone_none, Bool.not_true, Bool.not_false, Bool.false_eq_true, if_true, if_false, reduceIte, eq_self, not_true_eq_false, not_false_eq_true, bne_self_eq_false, beq_self_eq_true, decide_true, decide_false, decide_eq_true_eq, beq_iff_eq, bne_iff_ne, ne_eq]
      refine (hl.arg m (by simp)).idx (sizeDeed.trans rfl) (by decide) hlt fun b o cs rc lay => ?_
      obtain ⟨w, rfl, hw, _, _⟩ := LayC.deed lay
      try simp only [derefK_some, fldK_some, Nat.zero_add, Nat.add_zero, Nat.reduceAdd, inj_int, inj_bool, inj_str, inj_ptr, inj_map, inj_slice, exists_eq_left, List.getElem?_toArray, List.getElem?_cons_zero, List.getElem?_cons_succ, Option.isNone_some, Option.isNone_none, Bool.not_true, Bool.not_false, Bool.false_eq_true, if_true, if_false, reduceIte, eq_self, not_true_eq_false, not_false_eq_true, bne_self_eq_false, beq_self_eq_true, decide_true, decide_false, decide_eq_true_eq, beq_iff_eq, bne_iff_ne, ne_eq]
      refine loadK_cells rc (k := .slice) (j := 2) w rfl rfl ?_
      refine KeptByteRows_C x w _ lx hw.rows.1 (by omega) (fun x hx => by have := row_le hx; omega) ⟨_, rfl, ?_⟩
      try simp only [derefK_some, fldK_some, Nat.zero_add, Nat.add_zero, Nat.reduceAdd, inj_int, inj_bool, inj_str, inj_ptr, inj_map, inj_slice, exists_eq_left, List.getElem?_toArray, List.getElem?_cons_zero, List.getElem?_cons_succ, Option.isNone_some, Option.isNone_none, Bool.not_true, Bool.not_false, Bool.false_eq_true, if_true, if_false, reduceIte, eq_self, not_true_eq_false, not_false_eq_true, bne_self_eq_false, beq_self_eq_true, decide_true, decide_false, decide_eq_true_eq, beq_iff_eq, bne_iff_ne, ne_eq]
      refine same_spec q dd rr fun q2 m2 => ⟨_, rfl, ?_⟩
      try simp only [derefK_some, fldK_some, Nat.zero_add, Nat.add_zero, Nat.reduceAdd, inj_int, inj_bool, inj_str, inj_ptr, inj_map, inj_slice, exists_eq_left, List.getElem?_toArray, List.getElem?_cons_zero, List.getElem?_cons_succ, Option.isNone_some, Option.isNone_none, Bool.not_true, Bool.not_false, Bool.false_eq_true, if_true, if_false, reduceIte, eq_self, not_true_eq_false, not_false_eq_true, bne_self_eq_false, beq_self_eq_true, decide_true, decide_false, decide_eq_true_eq, beq_iff_eq, bne_iff_ne, ne_eq]
      rw [wrapSucc (by omega)]
      exact hX _ _ ⟨i + 1, p, A, B, q2, by omega, rfl, rfl, m.step m2 (by simp), dd.mv m2 (by simp) (by simp), rr.mv m2 (by simp) (by simp)⟩ (by simp; omega)
  · rw [if_neg (by omega)]
    exact awake_spec q fun q2 m2 => ⟨_, rfl, fin _ _ (m.step m2 (by simp)) (by simp)⟩

theorem DiskDoes_walk {h : Heap} (a : Option Addr) (la ca : Nat) (x : List (List Int)) (w : Lay h (.sl (.sl (.int .u8))) x [.slice a la ca]) (b : Option Addr) (lb cb : Nat) (y : List Deed) (w' : Lay h (.sl ShDeed) y [.slice b lb cb]) :
    HC Try.prog F.law25_DiskDoes #[.slice a la ca, .slice b lb cb] (fun v h' => v = .bool true ∧ Ext h h') h :=
  DiskDoes_spec ⟨h, fun _ => 0⟩ ⟨a, la, ca⟩ ⟨b, lb, cb⟩ x y (c := 0) (d := 0) (w.arg (Mv.refl [] _) (by simp)) (w'.arg (Mv.refl [] _) (by simp)) fun g' m => ⟨rfl, m.ext (by simp)⟩
end Go.Proofs.Ytmejgndgojfcaaa
