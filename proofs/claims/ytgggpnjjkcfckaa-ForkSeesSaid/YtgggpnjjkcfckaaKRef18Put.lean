/-
  The document's own messages: their bytes.
-/
import Derived.Test.YtgggpnjjkcfckaaKRef18
set_option linter.unusedSimpArgs false
set_option linter.unusedVariables false
namespace Go.Proofs.Ytgggpnjjkcfckaa
open Go Go.Ev

set_option maxHeartbeats 1000000 in
theorem ref18put_spec {g : GH} {kq kr p : Nat} {out : List Int} (hk : kq ≠ kr) (hw : W17 g kq kr p 0 out) (e : EntryT) (ok : ShEntry.ok e) (hgood : entryOk e = true) (hl : out.length + 200 ≤ 65536) {R : Value → Heap → Prop}
    (H : ∀ g' : GH, Mv [kq, kr] g g' → W17 g' kq kr p 0 (out ++ entryB e) → R (.tuple #[]) g'.h) : HC Try.prog F.ref18_put #[.pointer (some ⟨p, 0, none⟩), .agg ⟨ShEntry.enc e⟩] R g.h := by
  refine ref18_put.calls ?_
  unfold ref18_put.body
  obtain ⟨y, hyp, hyb⟩ : ∃ y, y ≠ kq ∧ y ≠ kr := ⟨kq + kr + 1, by omega, by omega⟩
  have m : Mv [kq, kr] g g := Mv.refl _ _
  have hge := entryGood hgood
  have okb : ShBody.ok e.what := ok.2.2.2.1
  have hg32 : e.game.length = 32 := ok.1.1
  have ha32 : e.ahead.length = 32 := ok.2.2.1.1
  have hsay : isByte e.what.say := by have := bodyGood hge.2; unfold isByte; omega
  refine new_C g y fun pe q3 m3 be => ?_
  replace m := m.step m3 (by simp [hyp, hyb])
  replace hw := hw.mv m3 (by simp [hyp, hyb]) (by simp [hyp, hyb])
  have E := entryAt ok (blkCells be)
  simp only [derefK_some, fldK_some, Nat.zero_add, Nat.add_zero, Nat.reduceAdd, inj_int, inj_bool, inj_str, inj_ptr, inj_map, inj_slice, exists_eq_left, List.getElem?_toArray, List.getElem?_cons_zero, List.getElem?_cons_succ, Option.isNone_some, Option.isNone_none, Bool.not_true, Bool.not_false, Bool.false_eq_true, if_true, if_false, reduceIte, eq_self, not_true_eq_false, not_false_eq_true, bne_self_eq_false, beq_self_eq_true, decide_true, decide_false, decide_eq_true_eq, beq_iff_eq, bne_iff_ne, ne_eq]
  refine loadTagAt E.game ok.1 ?_
  refine mkTag1 q3 y e.game ok.1 fun s4 q4 m4 o4 => ?_
  replace m := m.step m4 (by simp [hyp, hyb])
  replace hw := hw.mv m4 (by simp [hyp, hyb]) (by simp [hyp, hyb])
  replace be := be.mv m4 (by simp [hyp, hyb])
  refine refTag_to hk hyp hyb hw s4 [e.game] o4 (by simp) (put_tag ok.1.1 (by omega)) fun q5 m5 hw => ⟨_, rfl, ?_⟩
  replace m := m.step m5 (by simp [hyp, hyb])
  replace be := be.mv m5 (by simp [hyp, hyb])
  have E := entryAt ok (blkCells be)
  refine loadK_cells E.number (k := .int .i64) (j := 0) e.number rfl rfl ?_
  refine newSl_C q5 y rfl fun s6 q6 m6 o6 _ _ => ?_
  replace m := m.step m6 (by simp [hyp, hyb])
  replace hw := hw.mv m6 (by simp [hyp, hyb]) (by simp [hyp, hyb])
  replace be := be.mv m6 (by simp [hyp, hyb])
  refine refNumber_to hk hyp hyb hw s6 [e.number] o6.rd (by simp) (put_num hge.1 (by simp; omega)) fun q7 m7 hw => ⟨_, rfl, ?_⟩
  replace m := m.step m7 (by simp [hyp, hyb])
  replace be := be.mv m7 (by simp [hyp, hyb])
  have E := entryAt ok (blkCells be)
  refine loadTagAt E.ahead ok.2.2.1 ?_
  refine mkTag1 q7 y e.ahead ok.2.2.1 fun s8 q8 m8 o8 => ?_
  replace m := m.step m8 (by simp [hyp, hyb])
  replace hw := hw.mv m8 (by simp [hyp, hyb]) (by simp [hyp, hyb])
  replace be := be.mv m8 (by simp [hyp, hyb])
  refine refTag_to hk hyp hyb hw s8 [e.ahead] o8 (by simp) (put_tag ok.2.2.1.1 (by simp [fourB_length]; omega)) fun q9 m9 hw => ⟨_, rfl, ?_⟩
  replace m := m.step m9 (by simp [hyp, hyb])
  replace be := be.mv m9 (by simp [hyp, hyb])
  have E := entryAt ok (blkCells be)
  refine loadBodyAt E.what okb ?_
  rw [zBody]
  refine newStore_C q9 y (by rw [szBody]; exact lenBody okb) (by rw [szBody]; rfl) (fun v hv => Sh.enc_one (s := ShBody) rfl v hv) fun pb q10 m10 bb => ?_
  replace m := m.step m10 (by simp [hyp, hyb])
  replace hw := hw.mv m10 (by simp [hyp, hyb]) (by simp [hyp, hyb])
  have B := bodyAt okb (blkCells bb)
  simp only [derefK_some, fldK_some, Nat.zero_add, Nat.add_zero, Nat.reduceAdd, inj_int, inj_bool, inj_str, inj_ptr, inj_map, inj_slice, exists_eq_left, List.getElem?_toArray, List.getElem?_cons_zero, List.getElem?_cons_succ, Option.isNone_some, Option.isNone_none, Bool.not_true, Bool.not_false, Bool.false_eq_true, if_true, if_false, reduceIte, eq_self, not_true_eq_false, not_false_eq_true, bne_self_eq_false, beq_self_eq_true, decide_true, decide_false, decide_eq_true_eq, beq_iff_eq, bne_iff_ne, ne_eq]
  refine loadK_cells B.say (k := .int .i64) (j := 0) e.what.say rfl rfl ?_
  refine newSl_C q10 y rfl fun s11 q11 m11 o11 _ _ => ?_
  replace m := m.step m11 (by simp [hyp, hyb])
  replace hw := hw.mv m11 (by simp [hyp, hyb]) (by simp [hyp, hyb])
  replace bb := bb.mv m11 (by simp [hyp, hyb])
  refine refByte_to hk hyp hyb hw s11 [e.what.say] o11.rd (by simp) (put_bytes (fun x hx => by simp only [List.mem_singleton] at hx; subst hx; exact hsay) (by simp [fourB_length]; omega)) fun q12 m12 hw => ⟨_, rfl, ?_⟩
  replace m := m.step m12 (by simp [hyp, hyb])
  replace bb := bb.mv m12 (by simp [hyp, hyb])
  have B := bodyAt okb (blkCells bb)
  refine loadK_cells B.move (k := .int .i64) (j := 0) e.what.move.1 rfl rfl ?_
  refine loadK_cells B.move (k := .int .i64) (j := 1) e.what.move.2.1 rfl rfl ?_
  refine loadK_cells B.move (k := .int .i64) (j := 2) e.what.move.2.2.1 rfl rfl ?_
  refine newSl_C q12 y rfl fun s13 q13 m13 o13 _ _ => ?_
  replace m := m.step m13 (by simp [hyp, hyb])
  replace hw := hw.mv m13 (by simp [hyp, hyb]) (by simp [hyp, hyb])
  replace bb := bb.mv m13 (by simp [hyp, hyb])
  replace o13 : OwnC T.int 1 q13 y s13 ((moveB e.what.move).map (.int .i64)) := o13
  have B := bodyAt okb (blkCells bb)
  refine loadK_cells B.say (k := .int .i64) (j := 0) e.what.say rfl rfl ?_
  have fin : ∀ q : GH, Mv [kq, kr] g q → W17 q kq kr p 0 (out ++ e.game ++ fourB e.number ++ e.ahead ++ [e.what.say] ++ bodyB e.what) → R (.tuple #[]) q.h := fun q m w => H q m (by
    unfold entryB
    simpa only [List.append_assoc, List.cons_append, List.nil_append, List.singleton_append] using w)
  have hbl : (out ++ e.game ++ fourB e.number ++ e.ahead ++ [e.what.say]).length = out.length + 69 := by simp [fourB_length]; omega
  generalize hpre : out ++ e.game ++ fourB e.number ++ e.ahead ++ [e.what.say] = pre at fin hw hbl
  have hgood := bodyGood hge.2
  by_cases s1 : e.what.say = 1
  · rw [if_pos (by simpa using s1)]
    have hmv : moveOk e.what.move = true := by rcases hgood with ⟨_, h⟩ | ⟨h, _⟩ | h | h | h | h | ⟨h, _⟩ <;> first | exact h | omega
    have e1 : bodyB e.what = moveB e.what.move ++ [offerN e.what.offer] := by unfold bodyB; rw [if_pos s1]
    refine refByte_to hk hyp hyb hw s13 (moveB e.what.move) o13.rd (by simp [moveB]) (put_bytes (moveByte hmv) (by simp [moveB]; omega)) fun q14 m14 hw => ⟨_, rfl, ?_⟩
    replace m := m.step m14 (by simp [hyp, hyb])
    replace bb := bb.mv m14 (by simp [hyp, hyb])
    have B := bodyAt okb (blkCells bb)
    refine loadK_cells B.offer (k := .bool) (j := 0) e.what.offer rfl rfl ?_
    by_cases ho : e.what.offer = true
    · rw [if_pos ho]
      refine newSl_C q14 y rfl fun s15 q15 m15 o15 _ _ => ?_
      replace m := m.step m15 (by simp [hyp, hyb])
      replace hw := hw.mv m15 (by simp [hyp, hyb]) (by simp [hyp, hyb])
      refine refByte_to hk hyp hyb hw s15 [1] o15.rd (by simp) (put_bytes (by unfold isByte; decide) (by simp [moveB]; omega)) fun q16 m16 hw => ⟨_, rfl, ?_⟩
      replace m := m.step m16 (by simp [hyp, hyb])
      refine fin q16 m ?_
      rw [e1, ← List.append_assoc]
      simpa [offerN, ho] using hw
    · rw [if_neg ho]
      refine newSl_C q14 y rfl fun s15 q15 m15 o15 _ _ => ?_
      replace m := m.step m15 (by simp [hyp, hyb])
      replace hw := hw.mv m15 (by simp [hyp, hyb]) (by simp [hyp, hyb])
      refine refByte_to hk hyp hyb hw s15 [0] o15.rd (by simp) (put_bytes (by unfold isByte; decide) (by simp [moveB]; omega)) fun q16 m16 hw => ⟨_, rfl, ?_⟩
      replace m := m.step m16 (by simp [hyp, hyb])
      refine fin q16 m ?_
      rw [e1, ← List.append_assoc]
      simpa [offerN, ho] using hw
  rw [if_neg (by simpa using s1)]
  by_cases s2 : e.what.say = 2
  · rw [if_pos (by simpa using s2)]
    have hcl : e.what.claim = 6 ∨ e.what.claim = 7 := by rcases hgood with ⟨h, _⟩ | ⟨_, h⟩ | h | h | h | h | ⟨h, _⟩ <;> first | exact h | omega
    have e1 : bodyB e.what = [e.what.claim] := by unfold bodyB; rw [if_neg s1, if_pos s2]
    refine loadK_cells B.claim (k := .int .i64) (j := 0) e.what.claim rfl rfl ?_
    refine newSl_C q13 y rfl fun s15 q15 m15 o15 _ _ => ?_
    replace m := m.step m15 (by simp [hyp, hyb])
    replace hw := hw.mv m15 (by simp [hyp, hyb]) (by simp [hyp, hyb])
    refine refByte_to hk hyp hyb hw s15 [e.what.claim] o15.rd (by simp) (put_bytes (fun x hx => by simp only [List.mem_singleton] at hx; subst hx; unfold isByte; omega) (by simp; omega)) fun q16 m16 hw => ⟨_, rfl, ?_⟩
    replace m := m.step m16 (by simp [hyp, hyb])
    exact fin q16 m (by rw [e1]; exact hw)
  rw [if_neg (by simpa using s2)]
  by_cases s5 : e.what.say = 5
  · rw [if_pos (by simpa using s5)]
    have okt : ShTag.ok e.what.sealed := okb.2.2.2.2.1
    have e1 : bodyB e.what = e.what.sealed := by unfold bodyB; rw [if_neg s1, if_neg s2, if_pos s5]
    refine loadTagAt B.sealed okt ?_
    refine mkTag1 q13 y e.what.sealed okt fun s15 q15 m15 o15 => ?_
    replace m := m.step m15 (by simp [hyp, hyb])
    replace hw := hw.mv m15 (by simp [hyp, hyb]) (by simp [hyp, hyb])
    refine refTag_to hk hyp hyb hw s15 [e.what.sealed] o15 (by simp) (put_tag okt.1 (by omega)) fun q16 m16 hw => ⟨_, rfl, ?_⟩
    replace m := m.step m16 (by simp [hyp, hyb])
    exact fin q16 m (by rw [e1]; exact hw)
  rw [if_neg (by simpa using s5)]
  by_cases s7 : e.what.say = 7
  · rw [if_pos (by simpa using s7)]
    have hmv : moveOk e.what.move = true := by rcases hgood with ⟨h, _⟩ | ⟨h, _⟩ | h | h | h | h | ⟨_, h⟩ <;> first | exact h | omega
    have okt : ShTag.ok e.what.nonce := okb.2.2.2.2.2.1
    have e1 : bodyB e.what = moveB e.what.move ++ e.what.nonce := by unfold bodyB; rw [if_neg s1, if_neg s2, if_neg s5, if_pos s7]
    refine refByte_to hk hyp hyb hw s13 (moveB e.what.move) o13.rd (by simp [moveB]) (put_bytes (moveByte hmv) (by simp [moveB]; omega)) fun q14 m14 hw => ⟨_, rfl, ?_⟩
    replace m := m.step m14 (by simp [hyp, hyb])
    replace bb := bb.mv m14 (by simp [hyp, hyb])
    have B := bodyAt okb (blkCells bb)
    refine loadTagAt B.nonce okt ?_
    refine mkTag1 q14 y e.what.nonce okt fun s15 q15 m15 o15 => ?_
    replace m := m.step m15 (by simp [hyp, hyb])
    replace hw := hw.mv m15 (by simp [hyp, hyb]) (by simp [hyp, hyb])
    refine refTag_to hk hyp hyb hw s15 [e.what.nonce] o15 (by simp) (put_tag okt.1 (by simp [moveB]; omega)) fun q16 m16 hw => ⟨_, rfl, ?_⟩
    replace m := m.step m16 (by simp [hyp, hyb])
    exact fin q16 m (by rw [e1, ← List.append_assoc]; exact hw)
  · rw [if_neg (by simpa using s7)]
    have e1 : bodyB e.what = [] := by unfold bodyB; rw [if_neg s1, if_neg s2, if_neg s5, if_neg s7]
    exact fin q13 m (by rw [e1, List.append_nil]; exact hw)

theorem ref18PutEntry_spec (g : GH) (c : Nat) (e : EntryT) (ok : ShEntry.ok e) {R : Value → Heap → Prop}
    (H1 : entryOk e = true → ∀ (s : Sl) (g' : GH), Mv [] g g' → RdC 1 g' c s ((entryB e).map byV) → R (.tuple #[.slice s.a s.n s.c, .int .i64 0]) g'.h)
    (H2 : entryOk e = false → ∀ g' : GH, Mv [] g g' → R (.tuple #[.slice none 0 0, .int .i64 2]) g'.h) : HC Try.prog F.ref18_PutEntry #[.agg ⟨ShEntry.enc e⟩] R g.h := by
  refine ref18_PutEntry.calls ?_
  unfold ref18_PutEntry.body
  have m : Mv [1, 2] g.base g.base := Mv.refl _ _
  refine new_C g.base 3 fun p q1 m1 hb => ?_
  replace m := m.step m1 (by simp)
  refine loadEntryAt (blkCells hb) ok ?_
  refine ref18Entry_spec q1 e ok fun q2 m2 => ⟨_, rfl, ?_⟩
  replace m := m.step m2 (by simp)
  replace hb := hb.mv m2 (by simp)
  try dsimp only
  cases hg : entryOk e with
  | false =>
    rw [if_pos (by simp)]
    exact H2 hg (g.via q2 fun _ => 0) (m.via (by simp) _)
  | true =>
    rw [if_neg (by simp)]
    refine ⟨#[.slice none 0 0, .int .i64 0], fun w => by kernel_rfl, ?_⟩
    refine new_C q2 1 fun pw q3 m3 bw => ?_
    replace m := m.step m3 (by simp)
    replace hb := hb.mv m3 (by simp)
    have hw : W17 q3 1 2 pw 0 [] := ⟨⟨none, 0, 0⟩, bw, OwnC.nil _ _ _ _, by simp⟩
    refine loadEntryAt (blkCells hb) ok ?_
    refine ref18put_spec (by decide) hw e ok hg (by simp) fun q4 m4 hw => ⟨(), rfl, ?_⟩
    replace m := m.step m4 (by simp)
    obtain ⟨s0, bw, ow, _⟩ := hw
    simp only [derefK_some, fldK_some, Nat.zero_add, Nat.add_zero, Nat.reduceAdd, inj_int, inj_bool, inj_str, inj_ptr, inj_map, inj_slice, exists_eq_left, List.getElem?_toArray, List.getElem?_cons_zero, List.getElem?_cons_succ, Option.isNone_some, Option.isNone_none, Bool.not_true, Bool.not_false, Bool.false_eq_true, if_true, if_false, reduceIte, eq_self, not_true_eq_false, not_false_eq_true, bne_self_eq_false, beq_self_eq_true, decide_true, decide_false, decide_eq_true_eq, beq_iff_eq, bne_iff_ne, ne_eq, loadK_C bw]
    rw [List.nil_append] at ow
    exact H1 hg s0 (g.via q4 fun _ => c) (m.via (by simp) _) (ow.rd.via m (by simp) _)

end Go.Proofs.Ytgggpnjjkcfckaa
