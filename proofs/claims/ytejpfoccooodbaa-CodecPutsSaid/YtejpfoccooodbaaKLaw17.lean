/-
  The statements of layer 17, their parts: the example.
-/
import Derived.Test.YtejpfoccooodbaaKReader
set_option linter.unusedSimpArgs false
set_option linter.unusedVariables false
namespace Go.Proofs.Ytejpfoccooodbaa
open Go Go.Ev

abbrev awake17L : List Int := [7, 0, 0, 1, 2, 0, 0, 0, 2, 1, 2]

theorem awake17_spec (g : GH) {R : Value → Heap → Prop} (H : ∀ g' : GH, Mv [] g g' → R (.bool true) g'.h) : HC Try.prog F.law17_awake #[] R g.h := by
  refine law17_awake.calls ?_
  unfold law17_awake.body
  have m : Mv [1, 2, 4] g.base g.base := Mv.refl _ _
  refine codecNew_spec g.base 1 2 fun p q1 m1 w => ⟨_, rfl, ?_⟩
  replace m := m.step m1 (by simp)
  refine newSl_C q1 3 rfl fun s2 q2 m2 o2 hn2 hc2 => ?_
  replace m := m.step m2 (by simp)
  replace w := w.mv m2 (by simp) (by simp)
  refine wByte_to (by decide) (by decide) (by decide) w s2 [7] o2.rd (by decide) (e' := 0) (bs' := [7]) (by decide) fun q3 m3 w => ⟨_, rfl, ?_⟩
  replace m := m.step m3 (by simp)
  refine newSl_C q3 3 rfl fun s4 q4 m4 o4 hn4 hc4 => ?_
  replace m := m.step m4 (by simp)
  replace w := w.mv m4 (by simp) (by simp)
  refine wNumber_to (by decide) (by decide) (by decide) w s4 [258] o4.rd (by decide) (e' := 0) (bs' := [7, 0, 0, 1, 2]) (by decide) fun q5 m5 w => ⟨_, rfl, ?_⟩
  replace m := m.step m5 (by simp)
  refine newSl_C q5 3 rfl fun s6 q6 m6 o6 hn6 hc6 => ?_
  replace m := m.step m6 (by simp)
  replace w := w.mv m6 (by simp) (by simp)
  refine newSl_C q6 3 rfl fun s7 q7 m7 o7 hn7 hc7 => ?_
  replace m := m.step m7 (by simp)
  replace w := w.mv m7 (by simp) (by simp)
  replace o6 := o6.mv m7 (by simp)
  refine wRun_to (by decide) (by decide) (by decide) w s7 [[1, 2]] (RowsC.one o7.rd o6.rd (by omega)) (by decide) (by decide) (e' := 0) (bs' := awake17L) (by decide) fun q8 m8 w => ⟨_, rfl, ?_⟩
  replace m := m.step m8 (by simp)
  refine wOut_spec 3 w (fun _ s9 q9 m9 o9 => ⟨(_, _), rfl, ?_⟩) (fun h => absurd rfl h)
  replace m := m.step m9 (by simp)
  refine read_spec q9 4 3 s9 awake17L o9.rd (by decide) (by unfold isByte; decide) fun p2 q10 m10 d => ⟨_, rfl, ?_⟩
  replace m := m.step m10 (by simp)
  replace o9 := o9.mv m10 (by simp)
  simp only [derefK_some, fldK_some, Nat.zero_add, Nat.add_zero, Nat.reduceAdd, inj_int, inj_bool, inj_str, inj_ptr, inj_map, inj_slice, exists_eq_left, List.getElem?_toArray, List.getElem?_cons_zero, List.getElem?_cons_succ, Option.isNone_some, Option.isNone_none, Bool.not_true, Bool.not_false, Bool.false_eq_true, if_true, if_false, reduceIte, eq_self, not_true_eq_false, not_false_eq_true, bne_self_eq_false, beq_self_eq_true, decide_true, decide_false, decide_eq_true_eq, beq_iff_eq, bne_iff_ne, ne_eq]
  refine newSl_C q10 3 rfl fun s11 q11 m11 o11 hn11 hc11 => ?_
  replace m := m.step m11 (by simp)
  replace o9 := o9.mv m11 (by simp)
  replace d := d.mv m11 (by simp) (by simp)
  refine SameBytes_spec s9 s11 _ awake17L o9.rd.rd o11.rd.rd (by decide) (by decide) ⟨_, rfl, ?_⟩
  dsimp only
  rw [decide_eq_true rfl, if_pos rfl]
  refine rByte_to (by decide) d (n := 7) (st' := (false, 1)) (by decide) fun q12 m12 d => ⟨_, rfl, ?_⟩
  replace m := m.step m12 (by simp)
  dsimp only
  rw [if_pos (by decide)]
  refine rNumber_to (by decide) d (n := 258) (st' := (false, 5)) (by decide) fun q13 m13 d => ⟨_, rfl, ?_⟩
  replace m := m.step m13 (by simp)
  dsimp only
  rw [if_pos (by decide)]
  refine rLeft_spec d ⟨_, rfl, ?_⟩
  dsimp only
  rw [if_pos (by decide)]
  refine rRun_to 3 (by decide) d (out := [1, 2]) (st' := (false, 11)) (by decide) fun s14 q14 m14 d o14 => ⟨_, rfl, ?_⟩
  replace m := m.step m14 (by simp)
  refine newSl_C q14 3 rfl fun s15 q15 m15 o15 hn15 hc15 => ?_
  replace m := m.step m15 (by simp)
  replace o14 := o14.mv m15 (by simp)
  replace d := d.mv m15 (by simp) (by simp)
  refine SameBytes_spec s14 s15 _ [1, 2] o14.rd.rd o15.rd.rd (by decide) (by decide) ⟨_, rfl, ?_⟩
  dsimp only
  rw [decide_eq_true rfl, if_pos rfl]
  refine rEnd_spec d ⟨_, rfl, ?_⟩
  dsimp only
  rw [if_pos (by decide)]
  refine rByte_to (by decide) d (n := 0) (st' := (true, 11)) (by decide) fun q16 m16 d => ⟨_, rfl, ?_⟩
  replace m := m.step m16 (by simp)
  dsimp only
  rw [if_pos (by decide)]
  refine rEnd_spec d ⟨_, rfl, ?_⟩
  exact H (g.via q16 fun _ => 0) (m.via (by simp) _)

end Go.Proofs.Ytejpfoccooodbaa
