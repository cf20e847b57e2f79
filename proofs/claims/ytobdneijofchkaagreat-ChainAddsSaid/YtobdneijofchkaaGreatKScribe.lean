/-
  The package msg: contracts of its functions. What is written.
-/
import Derived.Test.YtobdneijofchkaaGreatKMsg
import Derived.Test.YtobdneijofchkaaGreatKFields
import Derived.Test.YtobdneijofchkaaGreatKFlat
import Derived.Test.YtobdneijofchkaaGreatMaps
set_option linter.unusedSimpArgs false
set_option linter.unusedVariables false
namespace Go.Proofs.YtobdneijofchkaaGreat
open Go Go.Ev

/-! ### In plain Lean -/

def moveB (m : MoveT) : List Int := [m.1, m.2.1, m.2.2.1]
def offerN (b : Bool) : Int := if b = true then 1 else 0
def bodyB (b : BodyT) : List Int :=
  if b.say = 1 then moveB b.move ++ [offerN b.offer] else if b.say = 2 then [b.claim] else if b.say = 5 then b.sealed else if b.say = 7 then moveB b.move ++ b.nonce else []
def entryB (e : EntryT) : List Int := e.game ++ (fourB e.number ++ (e.ahead ++ (e.what.say :: bodyB e.what)))
def msgB (m : MsgT) : List Int :=
  if m.kind = 3 then 3 :: entryB m.entry else m.kind :: (m.game ++ (m.sender :: (if m.kind = 1 then m.commit else if m.kind = 2 then m.bit :: m.nonce else [])))

theorem sqByte {n : Int} (h : sqOk n = true) : isByte n := by unfold sqOk at h; unfold isByte; simp at h; omega
theorem becByte {n : Int} (h : becOk n = true) : isByte n := by unfold becOk at h; unfold isByte; simp at h; omega
theorem moveByte {m : MoveT} (h : moveOk m = true) : ∀ x ∈ moveB m, isByte x := by
  unfold moveOk at h
  simp only [Bool.and_eq_true] at h
  intro x hx
  simp only [moveB, List.mem_cons, List.not_mem_nil, or_false] at hx
  rcases hx with rfl | rfl | rfl
  · exact sqByte h.1
  · exact sqByte h.2.1
  · exact becByte h.2.2
theorem bodyGood {b : BodyT} (h : bodyOk b = true) : (b.say = 1 ∧ moveOk b.move = true) ∨ (b.say = 2 ∧ (b.claim = 6 ∨ b.claim = 7)) ∨ b.say = 3 ∨ b.say = 4 ∨ b.say = 5 ∨ b.say = 6 ∨ (b.say = 7 ∧ moveOk b.move = true) := by
  unfold bodyOk at h
  simp only [Bool.and_eq_true] at h
  have h1 := h.1
  unfold namedD at h1
  by_cases s1 : b.say = 1
  · rw [if_pos s1] at h1; exact .inl ⟨s1, h1⟩
  rw [if_neg s1] at h1
  by_cases s2 : b.say = 2
  · rw [if_pos s2] at h1; simp at h1; exact .inr (.inl ⟨s2, h1⟩)
  rw [if_neg s2] at h1
  by_cases s5 : b.say = 5
  · exact .inr (.inr (.inr (.inr (.inl s5))))
  rw [if_neg s5] at h1
  by_cases s7 : b.say = 7
  · rw [if_pos s7] at h1; exact .inr (.inr (.inr (.inr (.inr (.inr ⟨s7, h1⟩)))))
  rw [if_neg s7] at h1
  simp at h1
  rcases h1 with (h1 | h1) | h1
  · exact .inr (.inr (.inl h1))
  · exact .inr (.inr (.inr (.inl h1)))
  · exact .inr (.inr (.inr (.inr (.inr (.inl h1)))))
theorem bodyB_len {b : BodyT} (ok : ShBody.ok b) : (bodyB b).length ≤ 35 := by
  have h1 := ok.2.2.2.2.1.1
  have h2 := ok.2.2.2.2.2.1.1
  unfold bodyB moveB
  split
  · simp
  split
  · simp
  split
  · show b.2.2.2.2.1.length ≤ 35; omega
  split
  · simp only [List.length_append, List.length_cons, List.length_nil]; show 3 + b.2.2.2.2.2.1.length ≤ 35; omega
  · simp
theorem entryB_len {e : EntryT} (ok : ShEntry.ok e) : (entryB e).length ≤ 104 := by
  have h1 : e.game.length = 32 := ok.1.1
  have h2 : e.ahead.length = 32 := ok.2.2.1.1
  have h3 : (bodyB e.what).length ≤ 35 := bodyB_len ok.2.2.2.1
  unfold entryB
  simp only [List.length_append, List.length_cons, fourB_length]
  omega
theorem msgB_len {m : MsgT} (ok : ShMsg.ok m) : (msgB m).length ≤ 105 := by
  have h1 : m.game.length = 32 := ok.2.1.1
  have h2 : m.commit.length = 32 := ok.2.2.2.1.1
  have h3 : m.nonce.length = 32 := ok.2.2.2.2.2.1.1
  have h4 : (entryB m.entry).length ≤ 104 := entryB_len ok.2.2.2.2.2.2.1
  unfold msgB
  split
  · simp only [List.length_cons]; omega
  · simp only [List.length_cons, List.length_append]
    split
    · omega
    split
    · simp only [List.length_cons]; omega
    · simp; omega
theorem entryGood {e : EntryT} (h : entryOk e = true) : (0 ≤ e.number ∧ e.number ≤ 4294967295) ∧ bodyOk e.what = true := by
  unfold entryOk at h
  simp only [Bool.and_eq_true, decide_eq_true_eq] at h
  exact ⟨⟨h.1, h.2.1⟩, h.2.2⟩

/-! ### Walks -/

theorem szScribe : sizeOfT Tryz.prog T.msg_scribe = 1 := by kernel_rfl
theorem zScribe : zerosOf Tryz.prog T.msg_scribe = #[.pointer none] := by kernel_rfl
abbrev scribeA (p : Nat) : Array Value := #[.pointer (some ⟨p, 0, none⟩)]

theorem mkTag1 (q : GH) (y : Nat) (t : List Int) (ok : ShTag.ok t) {K : Sl → Heap → Prop} (H : ∀ (s : Sl) (g' : GH), Mv [] q g' → SlC g' y ShTag s [t] → K s g'.h) : opK Tryz.prog .slice (Instr.buildSlice T.sl_api_Tag 1 #[(0, .agg ⟨ShTag.enc t⟩)]) K q.h :=
  mkTag_C q y ok fun s g' m o hc => H s g' m (o.slc rfl (by simp))

section
variable {g : GH} {kp kb p : Nat} {out : List Int}

theorem scribeMove_spec (hk : kp ≠ kb) (hw : WrC g kp kb p 0 out) (mv : MoveT) (hm : moveOk mv = true) (hl : out.length + 3 ≤ 65536) {R : Value → Heap → Prop} (H : ∀ g' : GH, Mv [kp, kb] g g' → WrC g' kp kb p 0 (out ++ moveB mv) → R (.tuple #[]) g'.h) :
    HC Tryz.prog F.msg_scribe_move #[.agg (scribeA p), .agg ⟨ShMove.enc mv⟩] R g.h := by
  refine msg_scribe_move.calls ?_
  unfold msg_scribe_move.body
  obtain ⟨y, hyp, hyb⟩ : ∃ y, y ≠ kp ∧ y ≠ kb := ⟨kp + kb + 1, by omega, by omega⟩
  refine new_C g y fun ps q1 m1 bs => ?_
  refine new_C q1 y fun pm q2 m2 bm => ?_
  replace bs := bs.mv m2 (by simp)
  replace hw := (hw.mv m1 (by simp) (by simp)).mv m2 (by simp) (by simp)
  have C := blkCells bm
  simp only [derefK_some, fldK_some, Nat.zero_add, Nat.add_zero, Nat.reduceAdd, inj_int, inj_bool, inj_str, inj_ptr, inj_map, inj_slice, exists_eq_left, List.getElem?_toArray, List.getElem?_cons_zero, List.getElem?_cons_succ, Option.isNone_some, Option.isNone_none, Bool.not_true, Bool.not_false, Bool.false_eq_true, if_true, if_false, reduceIte, eq_self, not_true_eq_false, not_false_eq_true, bne_self_eq_false, beq_self_eq_true, decide_true, decide_false, decide_eq_true_eq, beq_iff_eq, bne_iff_ne, ne_eq, loadK_C bs]
  refine loadK_cells C (k := .int .i64) (j := 0) mv.1 rfl rfl ?_
  refine loadK_cells C (k := .int .i64) (j := 1) mv.2.1 rfl rfl ?_
  refine loadK_cells C (k := .int .i64) (j := 2) mv.2.2.1 rfl rfl ?_
  refine newSl_C q2 y rfl fun s3 q3 m3 o3 _ _ => ?_
  replace hw := hw.mv m3 (by simp) (by simp)
  refine wByte_to hk hyp hyb hw s3 (moveB mv) o3.rd (by simp [moveB]) (put_bytes (moveByte hm) (by simp [moveB]; omega)) fun q4 m4 w4 => ⟨_, rfl, ?_⟩
  exact H q4 ((((m1.trans m2).trans m3).trans m4).mono (by simp)) w4

theorem scribeMoved_spec (hk : kp ≠ kb) (hw : WrC g kp kb p 0 out) (b : BodyT) (hb1 : b.say = 1) (ok : ShBody.ok b) (hm : moveOk b.move = true) (hl : out.length + 40 ≤ 65536) {R : Value → Heap → Prop} (H : ∀ g' : GH, Mv [kp, kb] g g' → WrC g' kp kb p 0 (out ++ bodyB b) → R (.tuple #[]) g'.h) :
    HC Tryz.prog F.msg_scribe_moved #[.agg (scribeA p), .agg ⟨ShBody.enc b⟩] R g.h := by
  refine msg_scribe_moved.calls ?_
  unfold msg_scribe_moved.body
  obtain ⟨y, hyp, hyb⟩ : ∃ y, y ≠ kp ∧ y ≠ kb := ⟨kp + kb + 1, by omega, by omega⟩
  have m : Mv [kp, kb] g g := Mv.refl _ _
  refine new_C g y fun ps q1 m1 bs => ?_
  replace m := m.step m1 (by simp [hyp, hyb])
  replace hw := hw.mv m1 (by simp [hyp, hyb]) (by simp [hyp, hyb])
  refine new_C q1 y fun pm q2 m2 bm => ?_
  replace m := m.step m2 (by simp [hyp, hyb])
  replace hw := hw.mv m2 (by simp [hyp, hyb]) (by simp [hyp, hyb])
  replace bs := bs.mv m2 (by simp [hyp, hyb])
  refine loadAgg_whole bs szScribe ?_
  have B := bodyAt ok (blkCells bm)
  simp only [derefK_some, fldK_some, Nat.zero_add, Nat.add_zero, Nat.reduceAdd, inj_int, inj_bool, inj_str, inj_ptr, inj_map, inj_slice, exists_eq_left, List.getElem?_toArray, List.getElem?_cons_zero, List.getElem?_cons_succ, Option.isNone_some, Option.isNone_none, Bool.not_true, Bool.not_false, Bool.false_eq_true, if_true, if_false, reduceIte, eq_self, not_true_eq_false, not_false_eq_true, bne_self_eq_false, beq_self_eq_true, decide_true, decide_false, decide_eq_true_eq, beq_iff_eq, bne_iff_ne, ne_eq]
  refine loadMoveAt B.move ?_
  refine scribeMove_spec hk hw b.move hm (by omega) fun q3 m3 hw => ⟨(), rfl, ?_⟩
  replace m := m.step m3 (by simp [hyp, hyb])
  replace bs := bs.mv m3 (by simp [hyp, hyb])
  replace bm := bm.mv m3 (by simp [hyp, hyb])
  refine joinW_intro (fun s h' => s = offerN b.offer ∧ h' = q3.h) ?_ ?_
  · intro J hJ
    have B := bodyAt ok (blkCells bm)
    refine loadK_cells B.offer (k := .bool) (j := 0) b.offer rfl rfl ?_
    by_cases ho : b.offer = true
    · rw [if_pos ho]; exact hJ _ _ ⟨by simp [offerN, ho], rfl⟩
    · rw [if_neg ho]; exact hJ _ _ ⟨by simp [offerN, ho], rfl⟩
  · rintro _ _ ⟨rfl, rfl⟩
    simp only [derefK_some, fldK_some, Nat.zero_add, Nat.add_zero, Nat.reduceAdd, inj_int, inj_bool, inj_str, inj_ptr, inj_map, inj_slice, exists_eq_left, List.getElem?_toArray, List.getElem?_cons_zero, List.getElem?_cons_succ, Option.isNone_some, Option.isNone_none, Bool.not_true, Bool.not_false, Bool.false_eq_true, if_true, if_false, reduceIte, eq_self, not_true_eq_false, not_false_eq_true, bne_self_eq_false, beq_self_eq_true, decide_true, decide_false, decide_eq_true_eq, beq_iff_eq, bne_iff_ne, ne_eq, loadK_C bs]
    refine newSl_C q3 y rfl fun s4 q4 m4 o4 _ _ => ?_
    replace m := m.step m4 (by simp [hyp, hyb])
    replace hw := hw.mv m4 (by simp [hyp, hyb]) (by simp [hyp, hyb])
    have hob : ∀ x ∈ [offerN b.offer], isByte x := by
      intro x hx
      simp only [List.mem_singleton] at hx
      subst hx
      unfold offerN isByte
      split <;> omega
    refine wByte_to hk hyp hyb hw s4 [offerN b.offer] o4.rd (by simp) (put_bytes hob (by simp [moveB]; omega)) fun q5 m5 w5 => ⟨_, rfl, ?_⟩
    replace m := m.step m5 (by simp [hyp, hyb])
    refine H q5 m ?_
    have e : bodyB b = moveB b.move ++ [offerN b.offer] := by unfold bodyB; rw [if_pos hb1]
    rw [e, ← List.append_assoc]
    exact w5

theorem scribeClaimed_spec (hk : kp ≠ kb) (hw : WrC g kp kb p 0 out) (b : BodyT) (hb1 : b.say = 2) (ok : ShBody.ok b) (hc : b.claim = 6 ∨ b.claim = 7) (hl : out.length + 40 ≤ 65536) {R : Value → Heap → Prop} (H : ∀ g' : GH, Mv [kp, kb] g g' → WrC g' kp kb p 0 (out ++ bodyB b) → R (.tuple #[]) g'.h) :
    HC Tryz.prog F.msg_scribe_claimed #[.agg (scribeA p), .agg ⟨ShBody.enc b⟩] R g.h := by
  refine msg_scribe_claimed.calls ?_
  unfold msg_scribe_claimed.body
  obtain ⟨y, hyp, hyb⟩ : ∃ y, y ≠ kp ∧ y ≠ kb := ⟨kp + kb + 1, by omega, by omega⟩
  have m : Mv [kp, kb] g g := Mv.refl _ _
  refine new_C g y fun ps q1 m1 bs => ?_
  replace m := m.step m1 (by simp [hyp, hyb])
  replace hw := hw.mv m1 (by simp [hyp, hyb]) (by simp [hyp, hyb])
  refine new_C q1 y fun pm q2 m2 bm => ?_
  replace m := m.step m2 (by simp [hyp, hyb])
  replace hw := hw.mv m2 (by simp [hyp, hyb]) (by simp [hyp, hyb])
  replace bs := bs.mv m2 (by simp [hyp, hyb])
  have B := bodyAt ok (blkCells bm)
  simp only [derefK_some, fldK_some, Nat.zero_add, Nat.add_zero, Nat.reduceAdd, inj_int, inj_bool, inj_str, inj_ptr, inj_map, inj_slice, exists_eq_left, List.getElem?_toArray, List.getElem?_cons_zero, List.getElem?_cons_succ, Option.isNone_some, Option.isNone_none, Bool.not_true, Bool.not_false, Bool.false_eq_true, if_true, if_false, reduceIte, eq_self, not_true_eq_false, not_false_eq_true, bne_self_eq_false, beq_self_eq_true, decide_true, decide_false, decide_eq_true_eq, beq_iff_eq, bne_iff_ne, ne_eq, loadK_C bs]
  refine loadK_cells B.claim (k := .int .i64) (j := 0) b.claim rfl rfl ?_
  refine newSl_C q2 y rfl fun s4 q4 m4 o4 _ _ => ?_
  replace m := m.step m4 (by simp [hyp, hyb])
  replace hw := hw.mv m4 (by simp [hyp, hyb]) (by simp [hyp, hyb])
  refine wByte_to hk hyp hyb hw s4 [b.claim] o4.rd (by simp) (put_bytes (fun x hx => by simp only [List.mem_singleton] at hx; subst hx; unfold isByte; omega) (by simp; omega)) fun q5 m5 w5 => ⟨_, rfl, ?_⟩
  replace m := m.step m5 (by simp [hyp, hyb])
  refine H q5 m ?_
  have e : bodyB b = [b.claim] := by unfold bodyB; rw [if_neg (by omega), if_pos hb1]
  rw [e]
  exact w5

theorem scribeSealed_spec (hk : kp ≠ kb) (hw : WrC g kp kb p 0 out) (b : BodyT) (hb1 : b.say = 5) (ok : ShBody.ok b) (hl : out.length + 40 ≤ 65536) {R : Value → Heap → Prop} (H : ∀ g' : GH, Mv [kp, kb] g g' → WrC g' kp kb p 0 (out ++ bodyB b) → R (.tuple #[]) g'.h) :
    HC Tryz.prog F.msg_scribe_sealed #[.agg (scribeA p), .agg ⟨ShBody.enc b⟩] R g.h := by
  refine msg_scribe_sealed.calls ?_
  unfold msg_scribe_sealed.body
  obtain ⟨y, hyp, hyb⟩ : ∃ y, y ≠ kp ∧ y ≠ kb := ⟨kp + kb + 1, by omega, by omega⟩
  have m : Mv [kp, kb] g g := Mv.refl _ _
  refine new_C g y fun ps q1 m1 bs => ?_
  replace m := m.step m1 (by simp [hyp, hyb])
  replace hw := hw.mv m1 (by simp [hyp, hyb]) (by simp [hyp, hyb])
  refine new_C q1 y fun pm q2 m2 bm => ?_
  replace m := m.step m2 (by simp [hyp, hyb])
  replace hw := hw.mv m2 (by simp [hyp, hyb]) (by simp [hyp, hyb])
  replace bs := bs.mv m2 (by simp [hyp, hyb])
  have B := bodyAt ok (blkCells bm)
  have okt : ShTag.ok b.sealed := ok.2.2.2.2.1
  simp only [derefK_some, fldK_some, Nat.zero_add, Nat.add_zero, Nat.reduceAdd, inj_int, inj_bool, inj_str, inj_ptr, inj_map, inj_slice, exists_eq_left, List.getElem?_toArray, List.getElem?_cons_zero, List.getElem?_cons_succ, Option.isNone_some, Option.isNone_none, Bool.not_true, Bool.not_false, Bool.false_eq_true, if_true, if_false, reduceIte, eq_self, not_true_eq_false, not_false_eq_true, bne_self_eq_false, beq_self_eq_true, decide_true, decide_false, decide_eq_true_eq, beq_iff_eq, bne_iff_ne, ne_eq, loadK_C bs]
  refine loadTagAt B.sealed okt ?_
  refine mkTag1 q2 y b.sealed okt fun s4 q4 m4 o4 => ?_
  replace m := m.step m4 (by simp [hyp, hyb])
  replace hw := hw.mv m4 (by simp [hyp, hyb]) (by simp [hyp, hyb])
  refine wTag_to hk hyp hyb hw s4 [b.sealed] o4 (by simp) (put_tag okt.1 (by omega)) fun q5 m5 w5 => ⟨_, rfl, ?_⟩
  replace m := m.step m5 (by simp [hyp, hyb])
  refine H q5 m ?_
  have e : bodyB b = b.sealed := by unfold bodyB; rw [if_neg (by omega), if_neg (by omega), if_pos hb1]
  rw [e]
  exact w5

theorem scribeOpened_spec (hk : kp ≠ kb) (hw : WrC g kp kb p 0 out) (b : BodyT) (hb1 : b.say = 7) (ok : ShBody.ok b) (hm : moveOk b.move = true) (hl : out.length + 40 ≤ 65536) {R : Value → Heap → Prop} (H : ∀ g' : GH, Mv [kp, kb] g g' → WrC g' kp kb p 0 (out ++ bodyB b) → R (.tuple #[]) g'.h) :
    HC Tryz.prog F.msg_scribe_opened #[.agg (scribeA p), .agg ⟨ShBody.enc b⟩] R g.h := by
  refine msg_scribe_opened.calls ?_
  unfold msg_scribe_opened.body
  obtain ⟨y, hyp, hyb⟩ : ∃ y, y ≠ kp ∧ y ≠ kb := ⟨kp + kb + 1, by omega, by omega⟩
  have m : Mv [kp, kb] g g := Mv.refl _ _
  refine new_C g y fun ps q1 m1 bs => ?_
  replace m := m.step m1 (by simp [hyp, hyb])
  replace hw := hw.mv m1 (by simp [hyp, hyb]) (by simp [hyp, hyb])
  refine new_C q1 y fun pm q2 m2 bm => ?_
  replace m := m.step m2 (by simp [hyp, hyb])
  replace hw := hw.mv m2 (by simp [hyp, hyb]) (by simp [hyp, hyb])
  replace bs := bs.mv m2 (by simp [hyp, hyb])
  refine loadAgg_whole bs szScribe ?_
  have B := bodyAt ok (blkCells bm)
  have okt : ShTag.ok b.nonce := ok.2.2.2.2.2.1
  simp only [derefK_some, fldK_some, Nat.zero_add, Nat.add_zero, Nat.reduceAdd, inj_int, inj_bool, inj_str, inj_ptr, inj_map, inj_slice, exists_eq_left, List.getElem?_toArray, List.getElem?_cons_zero, List.getElem?_cons_succ, Option.isNone_some, Option.isNone_none, Bool.not_true, Bool.not_false, Bool.false_eq_true, if_true, if_false, reduceIte, eq_self, not_true_eq_false, not_false_eq_true, bne_self_eq_false, beq_self_eq_true, decide_true, decide_false, decide_eq_true_eq, beq_iff_eq, bne_iff_ne, ne_eq]
  refine loadMoveAt B.move ?_
  refine scribeMove_spec hk hw b.move hm (by omega) fun q3 m3 hw => ⟨(), rfl, ?_⟩
  replace m := m.step m3 (by simp [hyp, hyb])
  replace bs := bs.mv m3 (by simp [hyp, hyb])
  replace bm := bm.mv m3 (by simp [hyp, hyb])
  have B := bodyAt ok (blkCells bm)
  simp only [derefK_some, fldK_some, Nat.zero_add, Nat.add_zero, Nat.reduceAdd, inj_int, inj_bool, inj_str, inj_ptr, inj_map, inj_slice, exists_eq_left, List.getElem?_toArray, List.getElem?_cons_zero, List.getElem?_cons_succ, Option.isNone_some, Option.isNone_none, Bool.not_true, Bool.not_false, Bool.false_eq_true, if_true, if_false, reduceIte, eq_self, not_true_eq_false, not_false_eq_true, bne_self_eq_false, beq_self_eq_true, decide_true, decide_false, decide_eq_true_eq, beq_iff_eq, bne_iff_ne, ne_eq, loadK_C bs]
  refine loadTagAt B.nonce okt ?_
  refine mkTag1 q3 y b.nonce okt fun s4 q4 m4 o4 => ?_
  replace m := m.step m4 (by simp [hyp, hyb])
  replace hw := hw.mv m4 (by simp [hyp, hyb]) (by simp [hyp, hyb])
  refine wTag_to hk hyp hyb hw s4 [b.nonce] o4 (by simp) (put_tag okt.1 (by simp [moveB]; omega)) fun q5 m5 w5 => ⟨_, rfl, ?_⟩
  replace m := m.step m5 (by simp [hyp, hyb])
  refine H q5 m ?_
  have e : bodyB b = moveB b.move ++ b.nonce := by unfold bodyB; rw [if_neg (by omega), if_neg (by omega), if_neg (by omega), if_pos hb1]
  rw [e, ← List.append_assoc]
  exact w5

theorem scribePlain_spec (b : BodyT) {R : Value → Heap → Prop} (H : ∀ g' : GH, Mv [] g g' → R (.tuple #[]) g'.h) : HC Tryz.prog F.msg_scribe_plain #[.agg (scribeA p), .agg ⟨ShBody.enc b⟩] R g.h := by
  refine msg_scribe_plain.calls ?_
  unfold msg_scribe_plain.body
  refine new_C g 0 fun ps q1 m1 bs => ?_
  refine new_C q1 0 fun pm q2 m2 bm => ?_
  exact H q2 ((m1.trans m2).mono (by simp))
end

/-! ### What is written of each body -/

abbrev fnV (f : FuncId) : Value := .func (.func f) #[] #[]
abbrev bodiesL : List MapEntry := [⟨.int .i64 1, fnV F.msg_scribe_moved, 0⟩, ⟨.int .i64 2, fnV F.msg_scribe_claimed, 1⟩, ⟨.int .i64 3, fnV F.msg_scribe_plain, 2⟩, ⟨.int .i64 4, fnV F.msg_scribe_plain, 3⟩, ⟨.int .i64 5, fnV F.msg_scribe_sealed, 4⟩, ⟨.int .i64 6, fnV F.msg_scribe_plain, 5⟩, ⟨.int .i64 7, fnV F.msg_scribe_opened, 6⟩]
abbrev mapT : TypeId := T.map_aapi_Say_func_msg_scribe_api_Body
theorem uMapT : Tryz.prog.underlying mapT = some (.map T.api_Say (match Tryz.prog.underlying mapT with | some (.map _ e) => e | _ => 0)) := by kernel_rfl
theorem uSay : Tryz.prog.underlying T.api_Say = some (.int .i64) := by kernel_rfl
theorem ckSay (n : Int) (b : Bool) (w : World) : (Instr.checkKey b 10000 T.api_Say (.int .i64 n)).run Tryz.prog w = .ok () w := by kernel_rfl

theorem bodies_spec (g : GH) (c : Nat) {R : Value → Heap → Prop} (H : ∀ (r : Nat) (g' : GH), Mv [] g g' → MapC g' c r bodiesL 7 → R (.map (some r)) g'.h) : HC Tryz.prog F.msg_bodies #[] R g.h := by
  refine msg_bodies.calls ?_
  unfold msg_bodies.body
  have m : Mv [1] g.base g.base := Mv.refl _ _
  refine makeMap_C g.base 1 fun r q0 m0 x => ?_
  replace m := m.step m0 (by simp)
  refine mapNew_C x uMapT (ckSay 1 false) (findKey_now uSay rfl) fun q1 m1 x => ?_
  replace m := m.step m1 (by simp)
  refine mapNew_C x uMapT (ckSay 2 false) (findKey_now uSay rfl) fun q1 m1 x => ?_
  replace m := m.step m1 (by simp)
  refine mapNew_C x uMapT (ckSay 3 false) (findKey_now uSay rfl) fun q1 m1 x => ?_
  replace m := m.step m1 (by simp)
  refine mapNew_C x uMapT (ckSay 4 false) (findKey_now uSay rfl) fun q1 m1 x => ?_
  replace m := m.step m1 (by simp)
  refine mapNew_C x uMapT (ckSay 5 false) (findKey_now uSay rfl) fun q1 m1 x => ?_
  replace m := m.step m1 (by simp)
  refine mapNew_C x uMapT (ckSay 6 false) (findKey_now uSay rfl) fun q1 m1 x => ?_
  replace m := m.step m1 (by simp)
  refine mapNew_C x uMapT (ckSay 7 false) (findKey_now uSay rfl) fun q1 m1 x => ?_
  replace m := m.step m1 (by simp)
  exact H r (g.via q1 fun _ => c) (m.via (by simp) _) (x.via m (by simp) _)

/-- The function that is looked up writes a good body. -/
theorem dispatch {g : GH} {kp kb p r cm : Nat} {out : List Int} (hk : kp ≠ kb) (hm : MapC g cm r bodiesL 7) (hw : WrC g kp kb p 0 out) (b : BodyT) (ok : ShBody.ok b) (hb : bodyOk b = true) (hl : out.length + 40 ≤ 65536) {K : Value → Prop} {R : Heap → Prop}
    (H : ∀ g' : GH, Mv [kp, kb] g g' → WrC g' kp kb p 0 (out ++ bodyB b) → R g'.h)
    (HK : ∀ v : Value, callV Tryz.prog .unit v #[.agg (scribeA p), .agg ⟨ShBody.enc b⟩] (fun _ h => R h) g.h → K v) : quietK Tryz.prog .any (Instr.lookup mapT (.map (some r)) (.int .i64 b.say) false) K g.h := by
  have plain : ∀ n : Int, b.say = n → n = 3 ∨ n = 4 ∨ n = 6 → callV Tryz.prog .unit (fnV F.msg_scribe_plain) #[.agg (scribeA p), .agg ⟨ShBody.enc b⟩] (fun _ h => R h) g.h := fun n hn h => by
    refine .inl ⟨_, _, _, rfl, scribePlain_spec b fun g' m => ⟨(), rfl, H g' (m.mono (by simp)) ?_⟩⟩
    have e : bodyB b = [] := by unfold bodyB; rw [if_neg (by omega), if_neg (by omega), if_neg (by omega), if_neg (by omega)]
    rw [e, List.append_nil]
    exact hw.mv m (by simp) (by simp)
  rcases bodyGood hb with ⟨h, hv⟩ | ⟨h, hv⟩ | h | h | h | h | ⟨h, hv⟩
  · rw [h]
    refine lookup_C (k := .any) (i := 0) hm uMapT (ckSay 1) (fnV F.msg_scribe_moved) (findKey_now uSay rfl) (HK _ ?_)
    exact .inl ⟨_, _, _, rfl, scribeMoved_spec hk hw b h ok hv hl fun g' m w => ⟨(), rfl, H g' m w⟩⟩
  · rw [h]
    refine lookup_C (k := .any) (i := 1) hm uMapT (ckSay 2) (fnV F.msg_scribe_claimed) (findKey_now uSay rfl) (HK _ ?_)
    exact .inl ⟨_, _, _, rfl, scribeClaimed_spec hk hw b h ok hv hl fun g' m w => ⟨(), rfl, H g' m w⟩⟩
  · rw [h]
    exact lookup_C (k := .any) (i := 2) hm uMapT (ckSay 3) (fnV F.msg_scribe_plain) (findKey_now uSay rfl) (HK _ (plain 3 h (by omega)))
  · rw [h]
    exact lookup_C (k := .any) (i := 3) hm uMapT (ckSay 4) (fnV F.msg_scribe_plain) (findKey_now uSay rfl) (HK _ (plain 4 h (by omega)))
  · rw [h]
    refine lookup_C (k := .any) (i := 4) hm uMapT (ckSay 5) (fnV F.msg_scribe_sealed) (findKey_now uSay rfl) (HK _ ?_)
    exact .inl ⟨_, _, _, rfl, scribeSealed_spec hk hw b h ok hl fun g' m w => ⟨(), rfl, H g' m w⟩⟩
  · rw [h]
    exact lookup_C (k := .any) (i := 5) hm uMapT (ckSay 6) (fnV F.msg_scribe_plain) (findKey_now uSay rfl) (HK _ (plain 6 h (by omega)))
  · rw [h]
    refine lookup_C (k := .any) (i := 6) hm uMapT (ckSay 7) (fnV F.msg_scribe_opened) (findKey_now uSay rfl) (HK _ ?_)
    exact .inl ⟨_, _, _, rfl, scribeOpened_spec hk hw b h ok hv hl fun g' m w => ⟨(), rfl, H g' m w⟩⟩

end Go.Proofs.YtobdneijofchkaaGreat

/-!
  The bytes of entries.
-/
namespace Go.Proofs.YtobdneijofchkaaGreat
open Go Go.Ev

def bytesIf (b : Bool) (l : List Int) : List Int := if b = true then l else []

/-! ### Bytes of entries -/

theorem bodyB_byte {b : BodyT} (ok : ShBody.ok b) (h : bodyOk b = true) : ∀ x ∈ bodyB b, isByte x := by
  have h1 : ∀ x ∈ b.sealed, isByte x := (okTagB ok.2.2.2.2.1).2
  have h2 : ∀ x ∈ b.nonce, isByte x := (okTagB ok.2.2.2.2.2.1).2
  intro x hx
  unfold bodyB at hx
  rcases bodyGood h with ⟨s, hm⟩ | ⟨s, hc⟩ | s | s | s | s | ⟨s, hm⟩
  · rw [if_pos s] at hx
    rcases List.mem_append.1 hx with hx | hx
    · exact moveByte hm x hx
    · rw [List.mem_singleton.1 hx]; unfold offerN isByte; split <;> omega
  · rw [if_neg (by omega), if_pos s] at hx
    rw [List.mem_singleton.1 hx]; unfold isByte; omega
  · rw [if_neg (by omega), if_neg (by omega), if_neg (by omega), if_neg (by omega)] at hx; cases hx
  · rw [if_neg (by omega), if_neg (by omega), if_neg (by omega), if_neg (by omega)] at hx; cases hx
  · rw [if_neg (by omega), if_neg (by omega), if_pos s] at hx; exact h1 x hx
  · rw [if_neg (by omega), if_neg (by omega), if_neg (by omega), if_neg (by omega)] at hx; cases hx
  · rw [if_neg (by omega), if_neg (by omega), if_neg (by omega), if_pos s] at hx
    rcases List.mem_append.1 hx with hx | hx
    · exact moveByte hm x hx
    · exact h2 x hx
theorem bodySay {b : BodyT} (h : bodyOk b = true) : isByte b.say := by
  unfold isByte
  rcases bodyGood h with ⟨s, _⟩ | ⟨s, _⟩ | s | s | s | s | ⟨s, _⟩ <;> omega
/-- An entry's bytes; none, if it is not right. -/
def entryBytes (e : EntryT) : List Int := bytesIf (entryOk e) (entryB e)
theorem entryBytes_byte {e : EntryT} (ok : ShEntry.ok e) : ∀ x ∈ entryBytes e, isByte x := by
  intro x hx
  unfold entryBytes bytesIf at hx
  split at hx
  · rename_i h
    unfold entryOk at h
    simp only [Bool.and_eq_true] at h
    have hb := h.2.2
    unfold entryB at hx
    simp only [List.mem_append, List.mem_cons] at hx
    rcases hx with hx | hx | hx | rfl | hx
    · exact (okTagB ok.1).2 x hx
    · exact fourB_byte _ x hx
    · exact (okTagB ok.2.2.1).2 x hx
    · exact bodySay hb
    · exact bodyB_byte ok.2.2.2.1 hb x hx
  · cases hx
theorem entryBytes_len {e : EntryT} (ok : ShEntry.ok e) : (entryBytes e).length ≤ 104 := by
  unfold entryBytes bytesIf
  split
  · exact entryB_len ok
  · simp

def rootB : List Int := [114, 111, 111, 116]
def linkB : List Int := [108, 105, 110, 107]

theorem over_part (pre mid post new : List Value) (h : mid.length = new.length) : overA ⟨pre ++ (mid ++ post)⟩ pre.length new = ⟨pre ++ (new ++ post)⟩ := by
  have e1 : (pre ++ (mid ++ post)).take pre.length = pre := List.take_left
  have e2 : (pre ++ (mid ++ post)).drop (pre.length + new.length) = post := by
    rw [← h, ← List.append_assoc, ← List.length_append, List.drop_left]
  show (((pre ++ (mid ++ post)).take pre.length ++ new ++ (pre ++ (mid ++ post)).drop (pre.length + new.length)).toArray) = _
  rw [e1, e2, List.append_assoc]

theorem over_at2 {pre mid post new : List Value} {n : Nat} (hn : pre.length = n) (h : mid.length = new.length) : overA ⟨pre ++ (mid ++ post)⟩ n new = ⟨pre ++ (new ++ post)⟩ := by
  subst hn
  exact over_part pre mid post new h
theorem build_Entry (game : List Int) (n : Int) (ahead : List Int) (b : BodyT) (hg : ShTag.ok game) (ha : ShTag.ok ahead) (hb : ShBody.ok b) (w : World) :
    (Instr.build T.api_Entry #[(0, .agg ⟨ShTag.enc game⟩), (1, .int .i64 n), (2, .agg ⟨ShTag.enc ahead⟩), (3, .agg ⟨ShBody.enc b⟩)]).run Tryz.prog w = .ok (.agg ⟨ShEntry.enc (game, n, ahead, b, ())⟩) w := by
  have l0 : (ShTag.enc zero32).length = 32 := lenTag ok0
  have lg := lenTag hg
  have la := lenTag ha
  have lb := lenBody hb
  have lb0 := lenBody okBody0
  refine build_struct (fs := structFs Tryz.prog T.api_Entry) (places := #[(0, 32), (32, 1), (33, 32), (65, 70)]) (by kernel_rfl) (z := ⟨[] ++ (ShTag.enc zero32 ++ ([.int .i64 0] ++ (ShTag.enc zero32 ++ (ShBody.enc body0 ++ []))))⟩) (fun w => by kernel_rfl) (fun w => by kernel_rfl) ?_ w
  rw [fillA_step (off := 0) (size := 32) rfl (by simpa [Value.cells] using lg) (by simp only [List.size_toArray, List.length_append, l0, lb0]; omega)]
  have e1 : overA ⟨[] ++ (ShTag.enc zero32 ++ ([.int .i64 0] ++ (ShTag.enc zero32 ++ (ShBody.enc body0 ++ []))))⟩ 0 (Value.agg ⟨ShTag.enc game⟩).cells.toList = ⟨ShTag.enc game ++ ([.int .i64 0] ++ (ShTag.enc zero32 ++ (ShBody.enc body0 ++ [])))⟩ := over_at2 (pre := []) (new := ShTag.enc game) rfl (by rw [l0, lg])
  rw [e1, fillA_step (off := 32) (size := 1) rfl rfl (by simp only [List.size_toArray, List.length_append, l0, lb0, lg, List.length_cons]; omega)]
  have e2 : overA ⟨ShTag.enc game ++ ([.int .i64 0] ++ (ShTag.enc zero32 ++ (ShBody.enc body0 ++ [])))⟩ 32 (Value.int .i64 n).cells.toList = ⟨(ShTag.enc game ++ [.int .i64 n]) ++ (ShTag.enc zero32 ++ (ShBody.enc body0 ++ []))⟩ := by
    rw [List.append_assoc]
    exact over_at2 (new := [.int .i64 n]) lg rfl
  rw [e2, fillA_step (off := 33) (size := 32) rfl (by simpa [Value.cells] using la) (by simp only [List.size_toArray, List.length_append, l0, lb0, lg, List.length_cons]; omega)]
  have e3 : overA ⟨(ShTag.enc game ++ [.int .i64 n]) ++ (ShTag.enc zero32 ++ (ShBody.enc body0 ++ []))⟩ 33 (Value.agg ⟨ShTag.enc ahead⟩).cells.toList = ⟨((ShTag.enc game ++ [.int .i64 n]) ++ ShTag.enc ahead) ++ (ShBody.enc body0 ++ [])⟩ := by
    rw [List.append_assoc (_ ++ _)]
    exact over_at2 (new := ShTag.enc ahead) (by rw [List.length_append, lg]; rfl) (by rw [l0, la])
  rw [e3, fillA_step (off := 65) (size := 70) rfl (by simpa [Value.cells] using lb) (by simp only [List.size_toArray, List.length_append, l0, lb0, lg, la, List.length_cons, List.length_nil]; omega)]
  have e4 : overA ⟨((ShTag.enc game ++ [.int .i64 n]) ++ ShTag.enc ahead) ++ (ShBody.enc body0 ++ [])⟩ 65 (Value.agg ⟨ShBody.enc b⟩).cells.toList = ⟨((ShTag.enc game ++ [.int .i64 n]) ++ ShTag.enc ahead) ++ (ShBody.enc b ++ [])⟩ :=
    over_at2 (new := ShBody.enc b) (by rw [List.length_append, List.length_append, lg, la]; rfl) (by rw [lb0, lb])
  rw [e4]
  show some _ = some _
  congr 2
  simp [Sh.enc]


theorem tagA_enc (t : List Int) : tagA t = ⟨ShTag.enc t⟩ := by rw [encTag]

end Go.Proofs.YtobdneijofchkaaGreat
