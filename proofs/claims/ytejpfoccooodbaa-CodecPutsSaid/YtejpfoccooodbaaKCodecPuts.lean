/-
  Whatever is put, one deed behind the other, the bytes, or the errors, are what the document tells.
-/
import Derived.Test.YtejpfoccooodbaaKDeed17
import Derived.Test.YtejpfoccooodbaaKRef17
import Derived.Test.YtejpfoccooodbaaKFlat
set_option linter.unusedSimpArgs false
set_option linter.unusedVariables false
namespace Go.Proofs.Ytejpfoccooodbaa
open Go Go.Ev

abbrev KP17 : List Nat := [1, 2, 3, 4, 8]

theorem sizeAll17 {l : List Deed17} {i : Nat} (h : i < l.length) : size17 l[i] ≤ (l.map size17).sum := le_of_mem_sum (List.mem_map.2 ⟨_, List.getElem_mem h, rfl⟩)

theorem OverBytes_nil (g : GH) (c : Nat) {R : Value → Heap → Prop} (H : ∀ g' : GH, Mv [c] g g' → R (.tuple #[]) g'.h) : HC Try.prog F.kit_OverBytes #[.slice none 0 0] R g.h := by
  have on : OwnC T.uint8 1 g c (⟨none, 0, 0⟩ : Sl) [] := OwnC.nil _ _ _ _
  generalize hs : (⟨none, 0, 0⟩ : Sl) = s at on
  have h := OverBytes_C on (by rw [← hs]; exact Nat.zero_le _) H
  subst hs
  exact h

set_option maxHeartbeats 4000000 in
theorem CodecPuts_spec (g : GH) {c : Nat} (v : Sl) (l : List Deed17) (hl : SlC g c ShDeed17 v l) {R : Value → Heap → Prop} (H : ∀ g' : GH, Mv [] g g' → R (.bool true) g'.h) :
    HC Try.prog F.law17_CodecPuts #[.slice v.a v.n v.c] R g.h := by
  refine law17_CodecPuts.calls (l0 := v) ?_
  unfold law17_CodecPuts.body
  have hn := hl.len
  have hsm := hl.small
  have m : Mv KP17 g.base g.base := Mv.refl _ _
  have hawake : ∀ q : GH, Mv KP17 g.base q → callK Try.prog .bool F.law17_awake #[] (fun (v_2 : Bool) (h : Heap) => R (.bool v_2) h) q.h := fun q m => awake17_spec q fun q1 m1 => ⟨_, rfl, by
    replace m := m.step m1 (by simp)
    exact H (g.via q1 fun _ => 0) (m.via (by simp) _)⟩
  refine size17_spec v l (hl.arg m (by simp)) fun n hsz => ⟨_, rfl, ?_⟩
  try dsimp only
  by_cases hbig : n ≤ 3000
  case neg =>
    rw [if_pos (by first | omega | (simp; omega))]
    exact hawake g.base m
  rw [if_neg (by first | omega | (simp; omega))]
  have hs := hsz hbig
  unfold sizes17 at hs
  refine codecNew_spec g.base 1 2 fun p q1 m1 wr => ⟨_, rfl, ?_⟩
  replace m := m.step m1 (by simp)
  refine ⟨#[.slice none 0 0, .int .i64 0], fun w => by kernel_rfl, ?_⟩
  refine new_C q1 3 fun p3 q2 m2 b2 => ?_
  replace m := m.step m2 (by simp)
  replace wr := wr.mv m2 (by simp) (by simp)
  have rf : W17 q2 3 4 p3 0 [] := ⟨⟨none, 0, 0⟩, b2, OwnC.nil _ _ _ _, by simp⟩
  refine loopW_rule (fun s h' => ∃ (i : Nat) (q : GH) (e : Int) (bs : List Int), i ≤ l.length ∧ s = (i : Int) ∧ h' = q.h ∧ Mv KP17 g.base q ∧ WrC q 1 2 p e bs ∧ W17 q 3 4 p3 e bs) (fun s => l.length - s.toNat)
    ⟨0, q2, 0, [], by omega, rfl, rfl, m, wr, rf⟩ ?_
  clear m wr rf
  rintro X _ _ ⟨i, q, e, bs, hi, rfl, rfl, m, wr, rf⟩ hX
  by_cases hlt : i < l.length
  case neg =>
    rw [if_neg (by first | omega | (simp; omega))]
    exact hawake q m
  rw [if_pos (by first | omega | (simp; omega))]
  have hsi := sizeAll17 hlt
  have hszi : size17 l[i] = l[i].nums.length + 32 * l[i].tags.length + l[i].runs.length + total l[i].runs := rfl
  have hxr : ∀ x ∈ l[i].runs, x.length ≤ 3000 := fun x hx => by
    have : x.length ≤ total l[i].runs := by unfold total; rw [List.length_flatten]; exact le_of_mem_sum (List.mem_map.2 ⟨x, hx, rfl⟩)
    omega
  have hlq := hl.arg m (by simp)
  refine hlq.idx (sizeDeed17.trans rfl) (by decide) hlt fun b o cs hc1 lay1 => ?_
  rw [fldK_some]
  refine hlq.idx (sizeDeed17.trans rfl) (by decide) hlt fun b' o' cs' hc2 lay2 => ?_
  rw [fldK_some]
  refine hlq.idx (sizeDeed17.trans rfl) (by decide) hlt fun b'' o'' cs'' hc3 lay3 => ?_
  obtain ⟨vn, _, _, rfl, hvn, _, _, _⟩ := LayC.deed17 lay1
  obtain ⟨_, vt, _, rfl, _, hvt, _, _⟩ := LayC.deed17 lay2
  obtain ⟨_, _, vr, rfl, _, _, hvr, _⟩ := LayC.deed17 lay3
  try simp only [derefK_some, fldK_some, Nat.zero_add, Nat.add_zero, Nat.reduceAdd, inj_int, inj_bool, inj_str, inj_ptr, inj_map, inj_slice, exists_eq_left, List.getElem?_toArray, List.getElem?_cons_zero, List.getElem?_cons_succ, Option.isNone_some, Option.isNone_none, Bool.not_true, Bool.not_false, Bool.false_eq_true, if_true, if_false, reduceIte, eq_self, not_true_eq_false, not_false_eq_true, bne_self_eq_false, beq_self_eq_true, decide_true, decide_false, decide_eq_true_eq, beq_iff_eq, bne_iff_ne, ne_eq]
  refine loadK_cells hc1 (k := .slice) (j := 1) vn rfl rfl ?_
  refine loadK_cells hc2 (k := .slice) (j := 2) vt rfl rfl ?_
  refine loadK_cells hc3 (k := .slice) (j := 3) vr rfl rfl ?_
  refine LentInts_C q 5 vn _ hvn.ints.1.rd (by omega) fun s5 q5 m5 l5 => ⟨_, rfl, ?_⟩
  replace m := m.step m5 (by simp)
  replace wr := wr.mv m5 (by simp) (by simp)
  replace rf := rf.mv m5 (by simp) (by simp)
  replace hvn := hvn.mv m5 (by simp)
  replace hvt := hvt.mv m5 (by simp)
  replace hvr := hvr.mv m5 (by simp)
  replace hc1 := hc1.mv m5 (by simp)
  replace hc2 := hc2.mv m5 (by simp)
  replace hc3 := hc3.mv m5 (by simp)
  refine ⟨stillK_cells hc3 (j := 3) rfl rfl, stillK_cells hc2 (j := 2) rfl rfl, ?_⟩
  refine LentTags_C q5 6 vt _ hvt (by omega) fun s6 q6 m6 l6 => ⟨_, rfl, ?_⟩
  replace m := m.step m6 (by simp)
  replace wr := wr.mv m6 (by simp) (by simp)
  replace rf := rf.mv m6 (by simp) (by simp)
  replace hvn := hvn.mv m6 (by simp)
  replace hvt := hvt.mv m6 (by simp)
  replace hvr := hvr.mv m6 (by simp)
  replace hc1 := hc1.mv m6 (by simp)
  replace hc2 := hc2.mv m6 (by simp)
  replace hc3 := hc3.mv m6 (by simp)
  replace l5 := l5.mv m6 (by simp)
  refine ⟨stillK_cells hc3 (j := 3) rfl rfl, ?_⟩
  refine LentByteRows_C q6 7 vr _ hvr.rows.1 (by omega) (fun x hx => by have := hxr x hx; omega) fun s7 q7 m7 l7 => ⟨_, rfl, ?_⟩
  replace m := m.step m7 (by simp)
  replace wr := wr.mv m7 (by simp) (by simp)
  replace rf := rf.mv m7 (by simp) (by simp)
  replace hvn := hvn.mv m7 (by simp)
  replace hvt := hvt.mv m7 (by simp)
  replace hvr := hvr.mv m7 (by simp)
  replace hc1 := hc1.mv m7 (by simp)
  replace hc2 := hc2.mv m7 (by simp)
  replace hc3 := hc3.mv m7 (by simp)
  replace l5 := l5.mv m7 (by simp)
  replace l6 := l6.mv m7 (by simp)
  clear hc1 hc2 hc3 lay1 lay2 lay3 hlq
  refine joinW_intro (fun b h' => b = true ∧ ∃ (q : GH) (e : Int) (bs : List Int), h' = q.h ∧ Mv KP17 g.base q ∧ WrC q 1 2 p e bs ∧ W17 q 3 4 p3 e bs ∧ LentIntsC q 5 s5 l[i].nums ∧ LentTagsC q 6 s6 l[i].tags ∧ LentRowsC q 7 s7 l[i].runs) ?_ ?_
  · intro J hJ
    have hlq := hl.arg m (by simp)
    refine hlq.idx (sizeDeed17.trans rfl) (by decide) hlt fun b o cs hc1 lay1 => ?_
    obtain ⟨wn, wt, wv, rfl, hwn, hwt, hwv, hwh⟩ := LayC.deed17 lay1
    try simp only [derefK_some, fldK_some, Nat.zero_add, Nat.add_zero, Nat.reduceAdd, inj_int, inj_bool, inj_str, inj_ptr, inj_map, inj_slice, exists_eq_left, List.getElem?_toArray, List.getElem?_cons_zero, List.getElem?_cons_succ, Option.isNone_some, Option.isNone_none, Bool.not_true, Bool.not_false, Bool.false_eq_true, if_true, if_false, reduceIte, eq_self, not_true_eq_false, not_false_eq_true, bne_self_eq_false, beq_self_eq_true, decide_true, decide_false, decide_eq_true_eq, beq_iff_eq, bne_iff_ne, ne_eq]
    refine loadK_cells hc1 (k := .int .i64) (j := 0) l[i].what (by omega) rfl ?_
    refine Pick_spec l[i].what 4 hwh (by decide) ⟨_, rfl, ?_⟩
    have hx4 : l[i].what % 4 = 0 ∨ l[i].what % 4 = 1 ∨ l[i].what % 4 = 2 ∨ l[i].what % 4 = 3 := by omega
    have fin : ∀ (q : GH) (e : Int) (bs : List Int), Mv KP17 g.base q → WrC q 1 2 p e bs → W17 q 3 4 p3 e bs → LentIntsC q 5 s5 l[i].nums → LentTagsC q 6 s6 l[i].tags → LentRowsC q 7 s7 l[i].runs → J (e == e) q.h := fun q e bs m w r a b c => hJ _ _ ⟨by simp, q, e, bs, rfl, m, w, r, a, b, c⟩
    try dsimp only
    rcases hx4 with h | h | h | h <;> rw [h]
    · rw [if_pos (by rfl)]
      refine hlq.idx (sizeDeed17.trans rfl) (by decide) hlt fun b o cs hc2 lay2 => ?_
      obtain ⟨xn, _, _, rfl, hxn, _, _, _⟩ := LayC.deed17 lay2
      try simp only [derefK_some, fldK_some, Nat.zero_add, Nat.add_zero, Nat.reduceAdd, inj_int, inj_bool, inj_str, inj_ptr, inj_map, inj_slice, exists_eq_left, List.getElem?_toArray, List.getElem?_cons_zero, List.getElem?_cons_succ, Option.isNone_some, Option.isNone_none, Bool.not_true, Bool.not_false, Bool.false_eq_true, if_true, if_false, reduceIte, eq_self, not_true_eq_false, not_false_eq_true, bne_self_eq_false, beq_self_eq_true, decide_true, decide_false, decide_eq_true_eq, beq_iff_eq, bne_iff_ne, ne_eq]
      refine loadK_cells hc2 (k := .slice) (j := 1) xn rfl rfl ?_
      refine wByte_spec (by decide) (by decide) (by decide) wr s5 _ l5.rd (by omega) fun q8 m8 wr => ⟨_, rfl, ?_⟩
      replace m := m.step m8 (by simp)
      replace rf := rf.mv m8 (by simp) (by simp)
      replace hxn := hxn.mv m8 (by simp)
      replace hc2 := hc2.mv m8 (by simp)
      replace l5 := l5.mv m8 (by simp)
      replace l6 := l6.mv m8 (by simp)
      replace l7 := l7.mv m8 (by simp)
      refine ⟨stillK_cells hc2 (j := 1) rfl rfl, ?_⟩
      refine refByte_spec (by decide) (by decide) (by decide) rf xn _ hxn.ints.1 (by omega) fun q9 m9 rf => ⟨_, rfl, ?_⟩
      replace m := m.step m9 (by simp)
      replace wr := wr.mv m9 (by simp) (by simp)
      replace l5 := l5.mv m9 (by simp)
      replace l6 := l6.mv m9 (by simp)
      replace l7 := l7.mv m9 (by simp)
      exact fin q9 _ _ m wr rf l5 l6 l7
    · rw [if_neg (by simp), if_pos (by rfl)]
      refine hlq.idx (sizeDeed17.trans rfl) (by decide) hlt fun b o cs hc2 lay2 => ?_
      obtain ⟨xn, _, _, rfl, hxn, _, _, _⟩ := LayC.deed17 lay2
      try simp only [derefK_some, fldK_some, Nat.zero_add, Nat.add_zero, Nat.reduceAdd, inj_int, inj_bool, inj_str, inj_ptr, inj_map, inj_slice, exists_eq_left, List.getElem?_toArray, List.getElem?_cons_zero, List.getElem?_cons_succ, Option.isNone_some, Option.isNone_none, Bool.not_true, Bool.not_false, Bool.false_eq_true, if_true, if_false, reduceIte, eq_self, not_true_eq_false, not_false_eq_true, bne_self_eq_false, beq_self_eq_true, decide_true, decide_false, decide_eq_true_eq, beq_iff_eq, bne_iff_ne, ne_eq]
      refine loadK_cells hc2 (k := .slice) (j := 1) xn rfl rfl ?_
      refine wNumber_spec (by decide) (by decide) (by decide) wr s5 _ l5.rd (by omega) fun q8 m8 wr => ⟨_, rfl, ?_⟩
      replace m := m.step m8 (by simp)
      replace rf := rf.mv m8 (by simp) (by simp)
      replace hxn := hxn.mv m8 (by simp)
      replace hc2 := hc2.mv m8 (by simp)
      replace l5 := l5.mv m8 (by simp)
      replace l6 := l6.mv m8 (by simp)
      replace l7 := l7.mv m8 (by simp)
      refine ⟨stillK_cells hc2 (j := 1) rfl rfl, ?_⟩
      refine refNumber_spec (by decide) (by decide) (by decide) rf xn _ hxn.ints.1 (by omega) fun q9 m9 rf => ⟨_, rfl, ?_⟩
      replace m := m.step m9 (by simp)
      replace wr := wr.mv m9 (by simp) (by simp)
      replace l5 := l5.mv m9 (by simp)
      replace l6 := l6.mv m9 (by simp)
      replace l7 := l7.mv m9 (by simp)
      exact fin q9 _ _ m wr rf l5 l6 l7
    · rw [if_neg (by simp), if_neg (by simp), if_pos (by rfl)]
      refine hlq.idx (sizeDeed17.trans rfl) (by decide) hlt fun b o cs hc2 lay2 => ?_
      obtain ⟨_, xt, _, rfl, _, hxt, _, _⟩ := LayC.deed17 lay2
      try simp only [derefK_some, fldK_some, Nat.zero_add, Nat.add_zero, Nat.reduceAdd, inj_int, inj_bool, inj_str, inj_ptr, inj_map, inj_slice, exists_eq_left, List.getElem?_toArray, List.getElem?_cons_zero, List.getElem?_cons_succ, Option.isNone_some, Option.isNone_none, Bool.not_true, Bool.not_false, Bool.false_eq_true, if_true, if_false, reduceIte, eq_self, not_true_eq_false, not_false_eq_true, bne_self_eq_false, beq_self_eq_true, decide_true, decide_false, decide_eq_true_eq, beq_iff_eq, bne_iff_ne, ne_eq]
      refine loadK_cells hc2 (k := .slice) (j := 2) xt rfl rfl ?_
      refine wTag_spec (by decide) (by decide) (by decide) wr s6 _ (l6.slc rfl (by omega)) (by omega) fun q8 m8 wr => ⟨_, rfl, ?_⟩
      replace m := m.step m8 (by simp)
      replace rf := rf.mv m8 (by simp) (by simp)
      replace hxt := hxt.mv m8 (by simp)
      replace hc2 := hc2.mv m8 (by simp)
      replace l5 := l5.mv m8 (by simp)
      replace l6 := l6.mv m8 (by simp)
      replace l7 := l7.mv m8 (by simp)
      refine ⟨stillK_cells hc2 (j := 2) rfl rfl, ?_⟩
      refine refTag_spec (by decide) (by decide) (by decide) rf xt _ hxt (by omega) fun q9 m9 rf => ⟨_, rfl, ?_⟩
      replace m := m.step m9 (by simp)
      replace wr := wr.mv m9 (by simp) (by simp)
      replace l5 := l5.mv m9 (by simp)
      replace l6 := l6.mv m9 (by simp)
      replace l7 := l7.mv m9 (by simp)
      exact fin q9 _ _ m wr rf l5 l6 l7
    · rw [if_neg (by simp), if_neg (by simp), if_neg (by simp), if_pos (by rfl)]
      refine hlq.idx (sizeDeed17.trans rfl) (by decide) hlt fun b o cs hc2 lay2 => ?_
      obtain ⟨_, _, xv, rfl, _, _, hxv, _⟩ := LayC.deed17 lay2
      try simp only [derefK_some, fldK_some, Nat.zero_add, Nat.add_zero, Nat.reduceAdd, inj_int, inj_bool, inj_str, inj_ptr, inj_map, inj_slice, exists_eq_left, List.getElem?_toArray, List.getElem?_cons_zero, List.getElem?_cons_succ, Option.isNone_some, Option.isNone_none, Bool.not_true, Bool.not_false, Bool.false_eq_true, if_true, if_false, reduceIte, eq_self, not_true_eq_false, not_false_eq_true, bne_self_eq_false, beq_self_eq_true, decide_true, decide_false, decide_eq_true_eq, beq_iff_eq, bne_iff_ne, ne_eq]
      refine loadK_cells hc2 (k := .slice) (j := 3) xv rfl rfl ?_
      refine wRun_spec (by decide) (by decide) (by decide) wr s7 _ l7.rows (fun x hx => by have := hxr x hx; omega) (by omega) fun q8 m8 wr => ⟨_, rfl, ?_⟩
      replace m := m.step m8 (by simp)
      replace rf := rf.mv m8 (by simp) (by simp)
      replace hxv := hxv.mv m8 (by simp)
      replace hc2 := hc2.mv m8 (by simp)
      replace l5 := l5.mv m8 (by simp)
      replace l6 := l6.mv m8 (by simp)
      replace l7 := l7.mv m8 (by simp)
      refine ⟨stillK_cells hc2 (j := 3) rfl rfl, ?_⟩
      refine refRun_spec (by decide) (by decide) (by decide) rf xv _ hxv.rows.1 (fun x hx => by have := hxr x hx; omega) (by omega) fun q9 m9 rf => ⟨_, rfl, ?_⟩
      replace m := m.step m9 (by simp)
      replace wr := wr.mv m9 (by simp) (by simp)
      replace l5 := l5.mv m9 (by simp)
      replace l6 := l6.mv m9 (by simp)
      replace l7 := l7.mv m9 (by simp)
      exact fin q9 _ _ m wr rf l5 l6 l7
  · rintro _ _ ⟨rfl, q, e, bs, rfl, m, wr, rf, l5, l6, l7⟩
    rw [if_neg (by simp)]
    have hlq := hl.arg m (by simp)
    refine hlq.idx (sizeDeed17.trans rfl) (by decide) hlt fun b o cs hc1 lay1 => ?_
    obtain ⟨wn, _, _, rfl, hwn, _, _, _⟩ := LayC.deed17 lay1
    try simp only [derefK_some, fldK_some, Nat.zero_add, Nat.add_zero, Nat.reduceAdd, inj_int, inj_bool, inj_str, inj_ptr, inj_map, inj_slice, exists_eq_left, List.getElem?_toArray, List.getElem?_cons_zero, List.getElem?_cons_succ, Option.isNone_some, Option.isNone_none, Bool.not_true, Bool.not_false, Bool.false_eq_true, if_true, if_false, reduceIte, eq_self, not_true_eq_false, not_false_eq_true, bne_self_eq_false, beq_self_eq_true, decide_true, decide_false, decide_eq_true_eq, beq_iff_eq, bne_iff_ne, ne_eq]
    refine loadK_cells hc1 (k := .slice) (j := 1) wn rfl rfl ?_
    refine KeptInts_spec s5 wn _ l5.lent hwn.ints.1.rd (by omega) ⟨_, rfl, ?_⟩
    try dsimp only
    rw [if_neg (by simp)]
    refine hlq.idx (sizeDeed17.trans rfl) (by decide) hlt fun b o cs hc1 lay1 => ?_
    obtain ⟨_, wt, _, rfl, _, hwt, _, _⟩ := LayC.deed17 lay1
    try simp only [derefK_some, fldK_some, Nat.zero_add, Nat.add_zero, Nat.reduceAdd, inj_int, inj_bool, inj_str, inj_ptr, inj_map, inj_slice, exists_eq_left, List.getElem?_toArray, List.getElem?_cons_zero, List.getElem?_cons_succ, Option.isNone_some, Option.isNone_none, Bool.not_true, Bool.not_false, Bool.false_eq_true, if_true, if_false, reduceIte, eq_self, not_true_eq_false, not_false_eq_true, bne_self_eq_false, beq_self_eq_true, decide_true, decide_false, decide_eq_true_eq, beq_iff_eq, bne_iff_ne, ne_eq]
    refine loadK_cells hc1 (k := .slice) (j := 2) wt rfl rfl ?_
    refine KeptTags_C s6 wt _ l6 hwt (by omega) fun q8 m8 => ⟨_, rfl, ?_⟩
    replace m := m.step m8 (by simp)
    replace wr := wr.mv m8 (by simp) (by simp)
    replace rf := rf.mv m8 (by simp) (by simp)
    replace l7 := l7.mv m8 (by simp)
    try dsimp only
    rw [if_neg (by simp)]
    have hlq := hl.arg m (by simp)
    refine hlq.idx (sizeDeed17.trans rfl) (by decide) hlt fun b o cs hc1 lay1 => ?_
    obtain ⟨_, _, wv, rfl, _, _, hwv, _⟩ := LayC.deed17 lay1
    try simp only [derefK_some, fldK_some, Nat.zero_add, Nat.add_zero, Nat.reduceAdd, inj_int, inj_bool, inj_str, inj_ptr, inj_map, inj_slice, exists_eq_left, List.getElem?_toArray, List.getElem?_cons_zero, List.getElem?_cons_succ, Option.isNone_some, Option.isNone_none, Bool.not_true, Bool.not_false, Bool.false_eq_true, if_true, if_false, reduceIte, eq_self, not_true_eq_false, not_false_eq_true, bne_self_eq_false, beq_self_eq_true, decide_true, decide_false, decide_eq_true_eq, beq_iff_eq, bne_iff_ne, ne_eq]
    refine loadK_cells hc1 (k := .slice) (j := 3) wv rfl rfl ?_
    refine KeptByteRows_C s7 wv _ l7 hwv.rows.1 (by omega) (fun x hx => by have := hxr x hx; omega) ⟨_, rfl, ?_⟩
    try dsimp only
    rw [if_neg (by simp)]
    have hbl : bs.length ≤ 65536 := by obtain ⟨_, _, _, h⟩ := wr; exact h
    have next : ∀ q : GH, Mv KP17 g.base q → WrC q 1 2 p e bs → W17 q 3 4 p3 e bs → X (IntKind.i64.wrap ((i : Int) + 1)) q.h := fun q m w r => by
      rw [wrapSucc (by omega)]
      exact hX _ _ ⟨i + 1, q, e, bs, by omega, rfl, rfl, m, w, r⟩ (by simp; omega)
    refine wOut_spec 8 wr (fun he s9 q9 m9 o9 => ⟨(s9, 0), rfl, ?_⟩) (fun he => ⟨(⟨none, 0, 0⟩, e), rfl, ?_⟩)
    · subst he
      replace m := m.step m9 (by simp)
      replace wr := wr.mv m9 (by simp) (by simp)
      replace rf := rf.mv m9 (by simp) (by simp)
      refine refOut_spec rf (fun _ s10 r10 => ⟨(s10, 0), rfl, ?_⟩) (fun h => absurd rfl h)
      try dsimp only
      refine SameBytes_spec s9 s10 _ _ o9.rd.rd r10.rd (by omega) (by omega) ⟨_, rfl, ?_⟩
      rw [decide_eq_true rfl]
      try dsimp only
      rw [if_neg (by simp), if_neg (by simp)]
      refine OverBytes_C o9 (by have := o9.len; simp at this; omega) fun q11 m11 => ⟨(), rfl, ?_⟩
      replace m := m.step m11 (by simp)
      replace wr := wr.mv m11 (by simp) (by simp)
      replace rf := rf.mv m11 (by simp) (by simp)
      exact next q11 m wr rf
    · refine refOut_spec rf (fun h => absurd h he) (fun _ => ⟨(⟨none, 0, 0⟩, e), rfl, ?_⟩)
      try dsimp only
      refine SameBytes_spec ⟨none, 0, 0⟩ ⟨none, 0, 0⟩ [] [] (Rd.nil _ _ _ _) (Rd.nil _ _ _ _) (by simp) (by simp) ⟨_, rfl, ?_⟩
      rw [decide_eq_true rfl]
      try dsimp only
      rw [if_neg (by simp), if_neg (by simp)]
      refine OverBytes_nil q8 8 fun q11 m11 => ⟨(), rfl, ?_⟩
      replace m := m.step m11 (by simp)
      replace wr := wr.mv m11 (by simp) (by simp)
      replace rf := rf.mv m11 (by simp) (by simp)
      exact next q11 m wr rf

theorem CodecPuts_walk {h : Heap} (a : Option Addr) (la ca : Nat) (x : List Deed17) (w : Lay h (.sl ShDeed17) x [.slice a la ca]) :
    HC Try.prog F.law17_CodecPuts #[.slice a la ca] (fun v h' => v = .bool true ∧ Ext h h') h :=
  CodecPuts_spec ⟨h, fun _ => 0⟩ ⟨a, la, ca⟩ x (c := 0) (w.arg (Mv.refl [] _) (by simp)) fun g' m => ⟨rfl, m.ext (by simp)⟩

end Go.Proofs.Ytejpfoccooodbaa
