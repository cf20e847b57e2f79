/-
  The document's own messages: contracts of its functions.
-/
import Derived.Test.YtafjmdeldejonaaGreatKScribe
import Derived.Test.YtafjmdeldejonaaGreatKRef17
set_option linter.unusedSimpArgs false
set_option linter.unusedVariables false
namespace Go.Proofs.YtafjmdeldejonaaGreat
open Go Go.Ev

theorem ref18Move_spec (g : GH) (x : MoveT) {R : Value → Heap → Prop} (H : ∀ g' : GH, Mv [] g g' → R (.bool (moveOk x)) g'.h) : HC Tryz.prog F.ref18_move #[.agg ⟨ShMove.enc x⟩] R g.h := by
  refine ref18_move.calls ?_
  unfold ref18_move.body
  refine new_C g 0 fun p q m b => ?_
  replace H := H q m
  unfold moveOk sqOk becOk at H
  have hcs := blkCells b
  simp only [derefK_some, fldK_some, Nat.zero_add, Nat.add_zero, Nat.reduceAdd, inj_int, inj_bool, inj_str, inj_ptr, inj_map, inj_slice, exists_eq_left, List.getElem?_toArray, List.getElem?_cons_zero, List.getElem?_cons_succ, Option.isNone_some, Option.isNone_none, Bool.not_true, Bool.not_false, Bool.false_eq_true, if_true, if_false, reduceIte, eq_self, not_true_eq_false, not_false_eq_true, bne_self_eq_false, beq_self_eq_true, decide_true, decide_false, decide_eq_true_eq, beq_iff_eq, bne_iff_ne, ne_eq]
  refine loadK_cells hcs (k := .int .i64) (j := 0) x.1 rfl rfl ?_
  by_cases h1 : 0 ≤ x.1
  case neg => rw [if_neg (by simpa using h1)]; simpa [h1] using H
  rw [if_pos (by simpa using h1)]
  rw [decide_eq_true h1, Bool.true_and] at H
  refine loadK_cells hcs (k := .int .i64) (j := 0) x.1 rfl rfl ?_
  by_cases h2 : x.1 < 64
  case neg => rw [if_neg (by simpa using h2)]; simpa [h2] using H
  rw [if_pos (by simpa using h2)]
  rw [decide_eq_true h2, Bool.true_and] at H
  refine loadK_cells hcs (k := .int .i64) (j := 1) x.2.1 rfl rfl ?_
  by_cases h3 : 0 ≤ x.2.1
  case neg => rw [if_neg (by simpa using h3)]; simpa [h3] using H
  rw [if_pos (by simpa using h3)]
  rw [decide_eq_true h3, Bool.true_and] at H
  refine loadK_cells hcs (k := .int .i64) (j := 1) x.2.1 rfl rfl ?_
  by_cases h4 : x.2.1 < 64
  case neg => rw [if_neg (by simpa using h4)]; simpa [h4] using H
  rw [if_pos (by simpa using h4)]
  rw [decide_eq_true h4, Bool.true_and] at H
  refine loadK_cells hcs (k := .int .i64) (j := 2) x.2.2.1 rfl rfl ?_
  by_cases h5 : x.2.2.1 = 0
  · rw [if_pos (by simpa using h5)]; simpa [h5] using H
  rw [if_neg (by simpa using h5)]
  have h5' : (x.2.2.1 == 0) = false := by simpa using h5
  rw [h5', Bool.false_or] at H
  refine loadK_cells hcs (k := .int .i64) (j := 2) x.2.2.1 rfl rfl ?_
  by_cases h6 : 2 ≤ x.2.2.1
  · rw [if_pos (by simpa using h6)]
    refine loadK_cells hcs (k := .int .i64) (j := 2) x.2.2.1 rfl rfl ?_
    rw [decide_eq_true h6, Bool.true_and] at H
    exact H
  · rw [if_neg (by simpa using h6)]
    rw [decide_eq_false h6, Bool.false_and] at H
    exact H

theorem build_Body1 (n : Int) (w : World) : (Instr.build T.api_Body #[(0, .int .i64 n)]).run Tryz.prog w = .ok (.agg ⟨ShBody.enc (n, move0, false, 0, zero32, zero32, ())⟩) w := by kernel_rfl

set_option maxHeartbeats 1000000 in
theorem ref18Body_spec (g : GH) (b : BodyT) (ok : ShBody.ok b) {R : Value → Heap → Prop} (H : ∀ g' : GH, Mv [] g g' → R (.bool (bodyOk b)) g'.h) : HC Tryz.prog F.ref18_Body #[.agg ⟨ShBody.enc b⟩] R g.h := by
  refine ref18_Body.calls ?_
  unfold ref18_Body.body
  have m : Mv [1, 2] g.base g.base := Mv.refl _ _
  refine new_C g.base 1 fun p q1 m1 hb => ?_
  replace m := m.step m1 (by simp)
  have B := bodyAt ok (blkCells hb)
  simp only [derefK_some, fldK_some, Nat.zero_add, Nat.add_zero, Nat.reduceAdd, inj_int, inj_bool, inj_str, inj_ptr, inj_map, inj_slice, exists_eq_left, List.getElem?_toArray, List.getElem?_cons_zero, List.getElem?_cons_succ, Option.isNone_some, Option.isNone_none, Bool.not_true, Bool.not_false, Bool.false_eq_true, if_true, if_false, reduceIte, eq_self, not_true_eq_false, not_false_eq_true, bne_self_eq_false, beq_self_eq_true, decide_true, decide_false, decide_eq_true_eq, beq_iff_eq, bne_iff_ne, ne_eq]
  refine loadK_cells B.say (k := .int .i64) (j := 0) b.say rfl rfl ?_
  refine ⟨_, build_Body1 b.say, ?_⟩
  have ok1 : ShBody.ok (b.say, move0, false, 0, zero32, zero32, ()) := ⟨ok.1, okMove0, trivial, okI0, ok0, ok0, trivial⟩
  rw [zBody]
  refine newStore_C q1 2 (by rw [szBody]; exact lenBody ok1) (by rw [szBody]; rfl) (fun v hv => Sh.enc_one (s := ShBody) rfl v hv) fun p2 q2 m2 hh => ?_
  replace m := m.step m2 (by simp)
  replace hb := hb.mv m2 (by simp)
  have fin : ∀ q : GH, Mv [1, 2] g.base q → R (.bool (bodyOk b)) q.h := fun q m => H (g.via q fun _ => 0) (m.via (by simp) _)
  refine joinW_intro (fun _ h' => ∃ q : GH, h' = q.h ∧ Mv [1, 2] g.base q ∧ BlkC q 1 p ⟨ShBody.enc b⟩ T.api_Body ∧ BlkC q 2 p2 ⟨ShBody.enc (namedD b).1⟩ T.api_Body ∧
      (((b.say = 1 ∨ b.say = 7) ∧ (namedD b).2 = moveOk b.move) ∨ (b.say ≠ 1 ∧ b.say ≠ 7 ∧ (namedD b).2 = true))) ?_ ?_
  · intro J hJ
    simp only [derefK_some, fldK_some, Nat.zero_add, Nat.add_zero, Nat.reduceAdd, inj_int, inj_bool, inj_str, inj_ptr, inj_map, inj_slice, exists_eq_left, List.getElem?_toArray, List.getElem?_cons_zero, List.getElem?_cons_succ, Option.isNone_some, Option.isNone_none, Bool.not_true, Bool.not_false, Bool.false_eq_true, if_true, if_false, reduceIte, eq_self, not_true_eq_false, not_false_eq_true, bne_self_eq_false, beq_self_eq_true, decide_true, decide_false, decide_eq_true_eq, beq_iff_eq, bne_iff_ne, ne_eq]
    have B := bodyAt ok (blkCells hb)
    refine loadK_cells B.say (k := .int .i64) (j := 0) b.say rfl rfl ?_
    by_cases s1 : b.say = 1
    · rw [if_pos (by simpa using s1)]
      have e : namedD b = ((b.say, b.move, b.offer, 0, zero32, zero32, ()), moveOk b.move) := by unfold namedD; rw [if_pos s1]
      refine loadMoveAt B.move ?_
      refine setMoveC hh ok1 b.move fun q5 m5 hh => ?_
      replace m := m.step m5 (by simp)
      replace hb := hb.mv m5 (by simp)
      have B := bodyAt ok (blkCells hb)
      refine loadK_cells B.offer (k := .bool) (j := 0) b.offer rfl rfl ?_
      refine setOfferC hh ⟨ok.1, ok.2.1, trivial, okI0, ok0, ok0, trivial⟩ b.offer fun q6 m6 hh => ?_
      replace m := m.step m6 (by simp)
      replace hb := hb.mv m6 (by simp)
      exact hJ _ _ ⟨q6, rfl, m, hb, by rw [e]; exact hh, .inl ⟨.inl s1, by rw [e]⟩⟩
    rw [if_neg (by simpa using s1)]
    by_cases s2 : b.say = 2
    · rw [if_pos (by simpa using s2)]
      have e : namedD b = ((b.say, move0, false, b.claim, zero32, zero32, ()), b.claim == 6 || b.claim == 7) := by unfold namedD; rw [if_neg s1, if_pos s2]
      refine loadK_cells B.claim (k := .int .i64) (j := 0) b.claim rfl rfl ?_
      refine setClaimC hh ok1 b.claim fun q5 m5 hh => ?_
      replace m := m.step m5 (by simp)
      replace hb := hb.mv m5 (by simp)
      have B := bodyAt ok (blkCells hb)
      refine loadK_cells B.claim (k := .int .i64) (j := 0) b.claim rfl rfl ?_
      have hgo : b.claim = 6 ∨ b.claim = 7 → J () q5.h := fun h => hJ _ _ ⟨q5, rfl, m, hb, by rw [e]; exact hh, .inr ⟨s1, by omega, by rw [e]; simpa using h⟩⟩
      by_cases h6 : b.claim = 6
      · rw [if_neg (by simpa using h6)]; exact hgo (.inl h6)
      · rw [if_pos (by simpa using h6)]
        refine loadK_cells B.claim (k := .int .i64) (j := 0) b.claim rfl rfl ?_
        by_cases h7 : b.claim = 7
        · rw [if_neg (by simpa using h7)]; exact hgo (.inr h7)
        · rw [if_pos (by simpa using h7)]
          have hf := fin q5 m
          unfold bodyOk at hf
          rw [e] at hf
          have e6 : (b.claim == 6) = false := by simpa using h6
          have e7 : (b.claim == 7) = false := by simpa using h7
          rw [e6, e7, Bool.or_false, Bool.false_and] at hf
          exact hf
    rw [if_neg (by simpa using s2)]
    refine joinW_intro (fun s h' => s = (b.say == 3 || b.say == 4 || b.say == 6) ∧ h' = q2.h) ?_ ?_
    · intro J2 hJ2
      by_cases s3 : b.say = 3
      · rw [if_pos (by simpa using s3)]; exact hJ2 _ _ ⟨by simp [s3], rfl⟩
      rw [if_neg (by simpa using s3)]
      by_cases s4 : b.say = 4
      · rw [if_pos (by simpa using s4)]; exact hJ2 _ _ ⟨by simp [s4], rfl⟩
      rw [if_neg (by simpa using s4)]
      refine hJ2 _ _ ⟨?_, rfl⟩
      have e3 : (b.say == 3) = false := by simpa using s3
      have e4 : (b.say == 4) = false := by simpa using s4
      rw [e3, e4, Bool.false_or, Bool.false_or]
    · rintro _ _ ⟨rfl, rfl⟩
      by_cases s346 : (b.say == 3 || b.say == 4 || b.say == 6) = true
      · rw [if_pos s346]
        have h346 : b.say = 3 ∨ b.say = 4 ∨ b.say = 6 := by simpa [or_assoc] using s346
        have e : namedD b = ((b.say, move0, false, 0, zero32, zero32, ()), true) := by
          unfold namedD
          rw [if_neg s1, if_neg s2, if_neg (by omega), if_neg (by omega), s346]
        exact hJ _ _ ⟨q2, rfl, m, hb, by rw [e]; exact hh, .inr ⟨s1, by omega, by rw [e]⟩⟩
      rw [if_neg s346]
      by_cases s5 : b.say = 5
      · rw [if_pos (by simpa using s5)]
        have e : namedD b = ((b.say, move0, false, 0, b.sealed, zero32, ()), true) := by unfold namedD; rw [if_neg s1, if_neg s2, if_pos s5]
        refine loadTagAt B.sealed ok.2.2.2.2.1 ?_
        refine setSealC hh ok1 b.sealed ok.2.2.2.2.1 fun q5 m5 hh => ?_
        replace m := m.step m5 (by simp)
        replace hb := hb.mv m5 (by simp)
        exact hJ _ _ ⟨q5, rfl, m, hb, by rw [e]; exact hh, .inr ⟨s1, by omega, by rw [e]⟩⟩
      rw [if_neg (by simpa using s5)]
      by_cases s7 : b.say = 7
      · rw [if_pos (by simpa using s7)]
        have e : namedD b = ((b.say, b.move, false, 0, zero32, b.nonce, ()), moveOk b.move) := by unfold namedD; rw [if_neg s1, if_neg s2, if_neg s5, if_pos s7]
        refine loadMoveAt B.move ?_
        refine setMoveC hh ok1 b.move fun q5 m5 hh => ?_
        replace m := m.step m5 (by simp)
        replace hb := hb.mv m5 (by simp)
        have B := bodyAt ok (blkCells hb)
        refine loadTagAt B.nonce ok.2.2.2.2.2.1 ?_
        refine setNonceC hh ⟨ok.1, ok.2.1, trivial, okI0, ok0, ok0, trivial⟩ b.nonce ok.2.2.2.2.2.1 fun q6 m6 hh => ?_
        replace m := m.step m6 (by simp)
        replace hb := hb.mv m6 (by simp)
        exact hJ _ _ ⟨q6, rfl, m, hb, by rw [e]; exact hh, .inl ⟨.inr s7, by rw [e]⟩⟩
      · rw [if_neg (by simpa using s7)]
        have hf := fin q2 m
        have e : (namedD b).2 = false := by
          unfold namedD
          rw [if_neg s1, if_neg s2, if_neg s5, if_neg s7]
          simpa using s346
        unfold bodyOk at hf
        rw [e, Bool.false_and] at hf
        exact hf
  · rintro _ _ ⟨q, rfl, m, hb, hh, hc⟩
    have hf := fin q m
    unfold bodyOk at hf
    have okn := okNamed ok
    have B := bodyAt ok (blkCells hb)
    refine loadBodyAt (blkCells hh) okn ?_
    refine loadBodyAt (blkCells hb) ok ?_
    refine eqBody_F okn ok ?_
    by_cases he : (namedD b).1 = b
    · rw [decide_eq_true he] at hf ⊢
      rw [if_pos rfl]
      rw [Bool.and_true] at hf
      refine loadK_cells B.say (k := .int .i64) (j := 0) b.say rfl rfl ?_
      by_cases s1 : b.say = 1
      · rw [if_neg (by simpa using s1)]
        refine loadMoveAt B.move ?_
        refine ref18Move_spec q b.move fun q2 m2 => ⟨_, rfl, ?_⟩
        have hf2 := fin q2 (m.step m2 (by simp))
        unfold bodyOk at hf2
        rw [decide_eq_true he, Bool.and_true] at hf2
        rcases hc with ⟨_, h⟩ | ⟨h, _⟩
        · rw [h] at hf2; exact hf2
        · exact absurd s1 h
      rw [if_pos (by simpa using s1)]
      refine loadK_cells B.say (k := .int .i64) (j := 0) b.say rfl rfl ?_
      by_cases s7 : b.say = 7
      · rw [if_neg (by simpa using s7)]
        refine loadMoveAt B.move ?_
        refine ref18Move_spec q b.move fun q2 m2 => ⟨_, rfl, ?_⟩
        have hf2 := fin q2 (m.step m2 (by simp))
        unfold bodyOk at hf2
        rw [decide_eq_true he, Bool.and_true] at hf2
        rcases hc with ⟨_, h⟩ | ⟨_, h, _⟩
        · rw [h] at hf2; exact hf2
        · exact absurd s7 h
      · rw [if_pos (by simpa using s7)]
        rcases hc with ⟨h, _⟩ | ⟨_, _, h⟩
        · omega
        · rw [h] at hf; exact hf
    · rw [decide_eq_false he] at hf ⊢
      rw [if_neg (by simp)]
      rw [Bool.and_false] at hf
      exact hf

end Go.Proofs.YtafjmdeldejonaaGreat

/-!
  The document's own messages: their bytes.
-/
namespace Go.Proofs.YtafjmdeldejonaaGreat
open Go Go.Ev

end Go.Proofs.YtafjmdeldejonaaGreat
