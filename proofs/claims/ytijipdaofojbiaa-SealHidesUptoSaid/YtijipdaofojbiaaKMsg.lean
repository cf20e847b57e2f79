/-
  The package msg: contracts of its functions. Which bodies, entries, messages are right.
-/
import Derived.Test.YtijipdaofojbiaaKApi
set_option linter.unusedSimpArgs false
set_option linter.unusedVariables false
namespace Go.Proofs.Ytijipdaofojbiaa
open Go Go.Ev

/-! ### In plain Lean -/

def sqOk (n : Int) : Bool := decide (0 ≤ n) && decide (n < 64)
def becOk (n : Int) : Bool := n == 0 || (decide (2 ≤ n) && decide (n ≤ 5))
def moveOk (m : MoveT) : Bool := sqOk m.1 && (sqOk m.2.1 && becOk m.2.2.1)
/-- What of a body is named beside what it says; whether that is something. -/
def namedD (b : BodyT) : BodyT × Bool :=
  if b.say = 1 then ((b.say, b.move, b.offer, 0, zero32, zero32, ()), moveOk b.move)
  else if b.say = 2 then ((b.say, move0, false, b.claim, zero32, zero32, ()), b.claim == 6 || b.claim == 7)
  else if b.say = 5 then ((b.say, move0, false, 0, b.sealed, zero32, ()), true)
  else if b.say = 7 then ((b.say, b.move, false, 0, zero32, b.nonce, ()), moveOk b.move)
  else ((b.say, move0, false, 0, zero32, zero32, ()), b.say == 3 || b.say == 4 || b.say == 6)
def bodyOk (b : BodyT) : Bool := (namedD b).2 && decide ((namedD b).1 = b)
def entryOk (e : EntryT) : Bool := decide (0 ≤ e.number) && (decide (e.number ≤ 4294967295) && bodyOk e.what)
theorem okNamed {b : BodyT} (ok : ShBody.ok b) : ShBody.ok (namedD b).1 := by
  obtain ⟨h1, h2, h3, h4, h5, h6, _⟩ := ok
  unfold namedD
  split
  · exact ⟨h1, h2, trivial, okI0, ok0, ok0, trivial⟩
  split
  · exact ⟨h1, okMove0, trivial, h4, ok0, ok0, trivial⟩
  split
  · exact ⟨h1, okMove0, trivial, okI0, h5, ok0, trivial⟩
  split
  · exact ⟨h1, h2, trivial, okI0, ok0, h6, trivial⟩
  · exact ⟨h1, okMove0, trivial, okI0, ok0, ok0, trivial⟩

/-! ### Walks -/

theorem move1_spec {g : GH} (n : Int) {R : Value → Heap → Prop} (H : R (.bool (sqOk n)) g.h) : HC Try.prog F.msg_move_1 #[.int .i64 n] R g.h := by
  refine msg_move_1.calls ?_
  unfold msg_move_1.body
  unfold sqOk at H
  by_cases h : 0 ≤ n
  · rw [if_pos (by simpa using h)]
    simpa [h] using H
  · rw [if_neg (by simpa using h)]
    simpa [h] using H

theorem msgMove_spec (g : GH) (x : MoveT) {R : Value → Heap → Prop} (H : ∀ g' : GH, Mv [] g g' → R (.bool (moveOk x)) g'.h) : HC Try.prog F.msg_move #[.agg ⟨ShMove.enc x⟩] R g.h := by
  refine msg_move.calls ?_
  unfold msg_move.body
  refine new_C g 0 fun p q m b => ?_
  replace H := H q m
  unfold moveOk becOk at H
  have hcs := blkCells b
  simp only [derefK_some, fldK_some, Nat.zero_add, Nat.add_zero, Nat.reduceAdd, inj_int, inj_bool, inj_str, inj_ptr, inj_map, inj_slice, exists_eq_left, List.getElem?_toArray, List.getElem?_cons_zero, List.getElem?_cons_succ, Option.isNone_some, Option.isNone_none, Bool.not_true, Bool.not_false, Bool.false_eq_true, if_true, if_false, reduceIte, eq_self, not_true_eq_false, not_false_eq_true, bne_self_eq_false, beq_self_eq_true, decide_true, decide_false, decide_eq_true_eq, beq_iff_eq, bne_iff_ne, ne_eq]
  refine loadK_cells hcs (k := .int .i64) (j := 0) x.1 rfl rfl ?_
  refine .inl ⟨_, _, _, rfl, move1_spec x.1 ⟨_, rfl, ?_⟩⟩
  try dsimp only
  cases h1 : sqOk x.1 with
  | false => rw [if_neg (by simp)]; simpa [h1] using H
  | true =>
    rw [if_pos rfl]
    refine loadK_cells hcs (k := .int .i64) (j := 1) x.2.1 rfl rfl ?_
    refine .inl ⟨_, _, _, rfl, move1_spec x.2.1 ⟨_, rfl, ?_⟩⟩
    try dsimp only
    cases h2 : sqOk x.2.1 with
    | false => rw [if_neg (by simp)]; simpa [h1, h2] using H
    | true =>
      rw [if_pos rfl]
      refine loadK_cells hcs (k := .int .i64) (j := 2) x.2.2.1 rfl rfl ?_
      simp only [h1, h2, Bool.true_and] at H
      by_cases h3 : x.2.2.1 = 0
      · rw [if_pos (by simpa using h3)]
        simpa [h3] using H
      · rw [if_neg (by simpa using h3)]
        refine loadK_cells hcs (k := .int .i64) (j := 2) x.2.2.1 rfl rfl ?_
        have h3' : (x.2.2.1 == 0) = false := by simpa using h3
        rw [h3', Bool.false_or] at H
        by_cases h4 : 2 ≤ x.2.2.1
        · rw [if_pos (by simpa using h4)]
          refine loadK_cells hcs (k := .int .i64) (j := 2) x.2.2.1 rfl rfl ?_
          rw [decide_eq_true h4, Bool.true_and] at H
          exact H
        · rw [if_neg (by simpa using h4)]
          rw [decide_eq_false h4, Bool.false_and] at H
          exact H

/-- A body that is told: loaded, stored as the result, loaded again. -/
theorem retBody {g : GH} {c p : Nat} {x : BodyT} (hb : BlkC g c p ⟨ShBody.enc x⟩ T.api_Body) (ok : ShBody.ok x) {K : Array Value → Heap → Prop} (H : ∀ g' : GH, Mv [c] g g' → K ⟨ShBody.enc x⟩ g'.h) :
    loadAggK (sizeOfT Try.prog T.api_Body) g.h (some ⟨p, 0, none⟩) (fun v => storeAggK (sizeOfT Try.prog T.api_Body) g.h (some ⟨p, 0, none⟩) v (fun h => quietK Try.prog .agg (Instr.loadAt T.api_Body (.pointer (some ⟨p, 0, none⟩))) (fun r => K r h) h)) := by
  refine loadBodyAt (blkCells hb) ok ?_
  have hl := lenBody ok
  exact result_C (n := 70) szBody dBody hb hl hl (fun v hv => Sh.enc_one (s := ShBody) rfl v hv) fun g' m => H g' m

theorem setMoveC {g : GH} {c p : Nat} {x : BodyT} (hb : BlkC g c p ⟨ShBody.enc x⟩ T.api_Body) (ok : ShBody.ok x) (mv : MoveT) {K : Heap → Prop} (H : ∀ g' : GH, Mv [c] g g' → BlkC g' c p ⟨ShBody.enc (x.1, mv, x.2.2)⟩ T.api_Body → K g'.h) : storeAggK (sizeOfT Try.prog T.api_Move) g.h (some ⟨p, 1, none⟩) ⟨ShMove.enc mv⟩ K := by
  have hl := lenBody ok
  refine storeAgg_C hb (by rw [szMove]; rfl) (by rw [szMove]; simp only [List.size_toArray]; omega) (fun v hv => Sh.enc_one (s := ShMove) rfl v hv) fun g' m b => ?_
  rw [bodySetMove] at b
  exact H g' m b
theorem setSealC {g : GH} {c p : Nat} {x : BodyT} (hb : BlkC g c p ⟨ShBody.enc x⟩ T.api_Body) (ok : ShBody.ok x) (t : List Int) (ht : ShTag.ok t) {K : Heap → Prop} (H : ∀ g' : GH, Mv [c] g g' → BlkC g' c p ⟨ShBody.enc (x.1, x.2.1, x.2.2.1, x.2.2.2.1, t, x.2.2.2.2.2)⟩ T.api_Body → K g'.h) : storeAggK (sizeOfT Try.prog T.api_Tag) g.h (some ⟨p, 6, none⟩) ⟨ShTag.enc t⟩ K := by
  have hl := lenBody ok
  refine storeAgg_C hb (by rw [szTag]; simpa using lenTag ht) (by rw [szTag]; simp only [List.size_toArray]; omega) (fun v hv => Sh.enc_one (s := ShTag) rfl v hv) fun g' m b => ?_
  rw [bodySetSeal x t ht ok.2.2.2.2.1] at b
  exact H g' m b
theorem setNonceC {g : GH} {c p : Nat} {x : BodyT} (hb : BlkC g c p ⟨ShBody.enc x⟩ T.api_Body) (ok : ShBody.ok x) (t : List Int) (ht : ShTag.ok t) {K : Heap → Prop} (H : ∀ g' : GH, Mv [c] g g' → BlkC g' c p ⟨ShBody.enc (x.1, x.2.1, x.2.2.1, x.2.2.2.1, x.2.2.2.2.1, t, ())⟩ T.api_Body → K g'.h) : storeAggK (sizeOfT Try.prog T.api_Tag) g.h (some ⟨p, 38, none⟩) ⟨ShTag.enc t⟩ K := by
  have hl := lenBody ok
  refine storeAgg_C hb (by rw [szTag]; simpa using lenTag ht) (by rw [szTag]; simp only [List.size_toArray]; omega) (fun v hv => Sh.enc_one (s := ShTag) rfl v hv) fun g' m b => ?_
  rw [bodySetNonce x t ht ok.2.2.2.2.2.1 ok.2.2.2.2.1] at b
  exact H g' m b
theorem setOfferC {g : GH} {c p : Nat} {x : BodyT} (hb : BlkC g c p ⟨ShBody.enc x⟩ T.api_Body) (ok : ShBody.ok x) (v : Bool) {K : Heap → Prop} (H : ∀ g' : GH, Mv [c] g g' → BlkC g' c p ⟨ShBody.enc (x.1, x.2.1, v, x.2.2.2)⟩ T.api_Body → K g'.h) : storeK g.h (some ⟨p, 4, none⟩) (.bool v) K := by
  have hl := lenBody ok
  refine store_C hb (by simp only [List.size_toArray]; omega) rfl fun g' m b => ?_
  rw [bodySetOffer] at b
  exact H g' m b
theorem setClaimC {g : GH} {c p : Nat} {x : BodyT} (hb : BlkC g c p ⟨ShBody.enc x⟩ T.api_Body) (ok : ShBody.ok x) (n : Int) {K : Heap → Prop} (H : ∀ g' : GH, Mv [c] g g' → BlkC g' c p ⟨ShBody.enc (x.1, x.2.1, x.2.2.1, n, x.2.2.2.2)⟩ T.api_Body → K g'.h) : storeK g.h (some ⟨p, 5, none⟩) (.int .i64 n) K := by
  have hl := lenBody ok
  refine store_C hb (by simp only [List.size_toArray]; omega) rfl fun g' m b => ?_
  rw [bodySetClaim] at b
  exact H g' m b
theorem setSayC {g : GH} {c p : Nat} {x : BodyT} (hb : BlkC g c p ⟨ShBody.enc x⟩ T.api_Body) (ok : ShBody.ok x) (n : Int) {K : Heap → Prop} (H : ∀ g' : GH, Mv [c] g g' → BlkC g' c p ⟨ShBody.enc (n, x.2)⟩ T.api_Body → K g'.h) : storeK g.h (some ⟨p, 0, none⟩) (.int .i64 n) K := by
  have hl := lenBody ok
  refine store_C hb (by simp only [List.size_toArray]; omega) rfl fun g' m b => ?_
  rw [bodySetSay] at b
  exact H g' m b

set_option maxHeartbeats 1000000 in
theorem named_spec (g : GH) (b : BodyT) (ok : ShBody.ok b) {R : Value → Heap → Prop} (H : ∀ g' : GH, Mv [] g g' → R (.tuple #[.agg ⟨ShBody.enc (namedD b).1⟩, .bool (namedD b).2]) g'.h) : HC Try.prog F.msg_named #[.agg ⟨ShBody.enc b⟩] R g.h := by
  refine msg_named.calls ?_
  unfold msg_named.body
  have m : Mv [1, 2] g.base g.base := Mv.refl _ _
  refine new_C g.base 1 fun p q1 m1 hb => ?_
  replace m := m.step m1 (by simp)
  rw [zBody]
  refine new_C q1 2 fun p2 q2 m2 hh => ?_
  replace m := m.step m2 (by simp)
  replace hb := hb.mv m2 (by simp)
  have B := bodyAt ok (blkCells hb)
  simp only [derefK_some, fldK_some, Nat.zero_add, Nat.add_zero, Nat.reduceAdd, inj_int, inj_bool, inj_str, inj_ptr, inj_map, inj_slice, exists_eq_left, List.getElem?_toArray, List.getElem?_cons_zero, List.getElem?_cons_succ, Option.isNone_some, Option.isNone_none, Bool.not_true, Bool.not_false, Bool.false_eq_true, if_true, if_false, reduceIte, eq_self, not_true_eq_false, not_false_eq_true, bne_self_eq_false, beq_self_eq_true, decide_true, decide_false, decide_eq_true_eq, beq_iff_eq, bne_iff_ne, ne_eq]
  refine loadK_cells B.say (k := .int .i64) (j := 0) b.say rfl rfl ?_
  refine setSayC hh okBody0 b.say fun q3 m3 hh => ?_
  replace m := m.step m3 (by simp)
  replace hb := hb.mv m3 (by simp)
  have ok1 : ShBody.ok (b.say, move0, false, 0, zero32, zero32, ()) := ⟨ok.1, okMove0, trivial, okI0, ok0, ok0, trivial⟩
  replace hh : BlkC q3 2 p2 ⟨ShBody.enc (b.say, move0, false, 0, zero32, zero32, ())⟩ T.api_Body := hh
  have B := bodyAt ok (blkCells hb)
  refine loadK_cells B.say (k := .int .i64) (j := 0) b.say rfl rfl ?_
  have fin : ∀ (x : BodyT) (v : Bool) (q : GH), namedD b = (x, v) → Mv [1, 2] g.base q → R (.tuple #[.agg ⟨ShBody.enc x⟩, .bool v]) q.h := fun x v q e m => by
    have h := H (g.via q fun _ => 0) (m.via (by simp) _)
    rw [e] at h
    exact h
  by_cases s1 : b.say = 1
  · rw [if_pos (by simpa using s1)]
    refine loadMoveAt B.move ?_
    refine loadK_cells B.offer (k := .bool) (j := 0) b.offer rfl rfl ?_
    refine loadMoveAt B.move ?_
    refine msgMove_spec q3 b.move fun q4 m4 => ⟨_, rfl, ?_⟩
    replace m := m.step m4 (by simp)
    replace hb := hb.mv m4 (by simp)
    replace hh := hh.mv m4 (by simp)
    have B := bodyAt ok (blkCells hb)
    refine ⟨stillK_cells B.offer (j := 0) rfl rfl, stillF (s := ShMove) B.move szMove (by decide) rfl, ?_⟩
    refine setMoveC hh ok1 b.move fun q5 m5 hh => ?_
    replace m := m.step m5 (by simp)
    replace hb := hb.mv m5 (by simp)
    have B := bodyAt ok (blkCells hb)
    refine ⟨stillK_cells B.offer (j := 0) rfl rfl, ?_⟩
    refine setOfferC hh ⟨ok.1, ok.2.1, trivial, okI0, ok0, ok0, trivial⟩ b.offer fun q6 m6 hh => ?_
    replace m := m.step m6 (by simp)
    replace hb := hb.mv m6 (by simp)
    refine retBody hh ⟨ok.1, ok.2.1, trivial, okI0, ok0, ok0, trivial⟩ fun q7 m7 => ?_
    replace m := m.step m7 (by simp)
    exact fin _ _ q7 (by unfold namedD; rw [if_pos s1]) m
  rw [if_neg (by simpa using s1)]
  by_cases s2 : b.say = 2
  · rw [if_pos (by simpa using s2)]
    refine loadK_cells B.claim (k := .int .i64) (j := 0) b.claim rfl rfl ?_
    refine loadK_cells B.claim (k := .int .i64) (j := 0) b.claim rfl rfl ?_
    by_cases h6 : b.claim = 6
    · rw [if_pos (by simpa using h6)]
      refine setClaimC hh ok1 b.claim fun q5 m5 hh => ?_
      replace m := m.step m5 (by simp)
      replace hb := hb.mv m5 (by simp)
      refine retBody hh ⟨ok.1, okMove0, trivial, ok.2.2.2.1, ok0, ok0, trivial⟩ fun q7 m7 => ?_
      replace m := m.step m7 (by simp)
      exact fin _ _ q7 (by unfold namedD; rw [if_neg s1, if_pos s2]; simp [h6]) m
    · rw [if_neg (by simpa using h6)]
      refine loadK_cells B.claim (k := .int .i64) (j := 0) b.claim rfl rfl ?_
      refine setClaimC hh ok1 b.claim fun q5 m5 hh => ?_
      replace m := m.step m5 (by simp)
      replace hb := hb.mv m5 (by simp)
      have B := bodyAt ok (blkCells hb)
      refine ⟨stillK_cells B.claim (j := 0) rfl rfl, ?_⟩
      refine retBody hh ⟨ok.1, okMove0, trivial, ok.2.2.2.1, ok0, ok0, trivial⟩ fun q7 m7 => ?_
      replace m := m.step m7 (by simp)
      have h6' : (b.claim == 6) = false := by simpa using h6
      have hf := fin _ (b.claim == 7) q7 (by unfold namedD; rw [if_neg s1, if_pos s2, h6', Bool.false_or]) m
      simpa using hf
  rw [if_neg (by simpa using s2)]
  by_cases s5 : b.say = 5
  · rw [if_pos (by simpa using s5)]
    refine loadTagAt B.sealed ok.2.2.2.2.1 ?_
    refine setSealC hh ok1 b.sealed ok.2.2.2.2.1 fun q5 m5 hh => ?_
    replace m := m.step m5 (by simp)
    replace hb := hb.mv m5 (by simp)
    refine retBody hh ⟨ok.1, okMove0, trivial, okI0, ok.2.2.2.2.1, ok0, trivial⟩ fun q7 m7 => ?_
    replace m := m.step m7 (by simp)
    exact fin _ _ q7 (by unfold namedD; rw [if_neg s1, if_neg s2, if_pos s5]) m
  rw [if_neg (by simpa using s5)]
  by_cases s7 : b.say = 7
  · rw [if_pos (by simpa using s7)]
    refine loadMoveAt B.move ?_
    refine loadTagAt B.nonce ok.2.2.2.2.2.1 ?_
    refine loadMoveAt B.move ?_
    refine msgMove_spec q3 b.move fun q4 m4 => ⟨_, rfl, ?_⟩
    replace m := m.step m4 (by simp)
    replace hb := hb.mv m4 (by simp)
    replace hh := hh.mv m4 (by simp)
    have B := bodyAt ok (blkCells hb)
    refine ⟨stillF (s := ShTag) B.nonce szTag (by decide) (lenTag ok.2.2.2.2.2.1), stillF (s := ShMove) B.move szMove (by decide) rfl, ?_⟩
    refine setMoveC hh ok1 b.move fun q5 m5 hh => ?_
    replace m := m.step m5 (by simp)
    replace hb := hb.mv m5 (by simp)
    have B := bodyAt ok (blkCells hb)
    refine ⟨stillF (s := ShTag) B.nonce szTag (by decide) (lenTag ok.2.2.2.2.2.1), ?_⟩
    refine setNonceC hh ⟨ok.1, ok.2.1, trivial, okI0, ok0, ok0, trivial⟩ b.nonce ok.2.2.2.2.2.1 fun q6 m6 hh => ?_
    replace m := m.step m6 (by simp)
    replace hb := hb.mv m6 (by simp)
    refine retBody hh ⟨ok.1, ok.2.1, trivial, okI0, ok0, ok.2.2.2.2.2.1, trivial⟩ fun q7 m7 => ?_
    replace m := m.step m7 (by simp)
    exact fin _ _ q7 (by unfold namedD; rw [if_neg s1, if_neg s2, if_neg s5, if_pos s7]) m
  rw [if_neg (by simpa using s7)]
  have e0 : namedD b = ((b.say, move0, false, 0, zero32, zero32, ()), b.say == 3 || b.say == 4 || b.say == 6) := by unfold namedD; rw [if_neg s1, if_neg s2, if_neg s5, if_neg s7]
  by_cases s3 : b.say = 3
  · rw [if_pos (by simpa using s3), if_pos (by simpa using s3)]
    refine retBody hh ok1 fun q7 m7 => ?_
    replace m := m.step m7 (by simp)
    exact fin _ _ q7 (by rw [e0]; simp [s3]) m
  rw [if_neg (by simpa using s3)]
  by_cases s4 : b.say = 4
  · rw [if_pos (by simpa using s4), if_pos (by simpa using s4)]
    refine retBody hh ok1 fun q7 m7 => ?_
    replace m := m.step m7 (by simp)
    exact fin _ _ q7 (by rw [e0]; simp [s4]) m
  rw [if_neg (by simpa using s4)]
  by_cases s6 : b.say = 6
  · rw [if_pos (by simpa using s6)]
    refine retBody hh ok1 fun q7 m7 => ?_
    replace m := m.step m7 (by simp)
    exact fin _ _ q7 (by rw [e0]; simp [s6]) m
  · rw [if_neg (by simpa using s6)]
    refine retBody hh ok1 fun q7 m7 => ?_
    replace m := m.step m7 (by simp)
    exact fin _ _ q7 (by rw [e0]; simp [s3, s4, s6]) m

theorem msgBody_spec (g : GH) (b : BodyT) (ok : ShBody.ok b) {R : Value → Heap → Prop} (H : ∀ g' : GH, Mv [] g g' → R (.bool (bodyOk b)) g'.h) : HC Try.prog F.msg_Body #[.agg ⟨ShBody.enc b⟩] R g.h := by
  refine msg_Body.calls ?_
  unfold msg_Body.body
  have m : Mv [] g g := Mv.refl _ _
  refine new_C g 0 fun p q1 m1 hb => ?_
  replace m := m.step m1 (by simp)
  refine loadBodyAt (blkCells hb) ok ?_
  refine named_spec q1 b ok fun q2 m2 => ⟨(_, _), rfl, ?_⟩
  replace m := m.step m2 (by simp)
  replace hb := hb.mv m2 (by simp)
  try dsimp only
  have okn := okNamed ok
  have hl := lenBody okn
  rw [zBody]
  refine newStore_C q2 0 (by rw [szBody]; exact hl) (by rw [szBody]; rfl) (fun v hv => Sh.enc_one (s := ShBody) rfl v hv) fun p2 q3 m3 hh => ?_
  replace m := m.step m3 (by simp)
  replace hb := hb.mv m3 (by simp)
  replace H := H q3 m
  unfold bodyOk at H
  by_cases hn : (namedD b).2 = true
  · rw [if_pos hn]
    rw [hn, Bool.true_and] at H
    refine loadBodyAt (blkCells hh) okn ?_
    refine loadBodyAt (blkCells hb) ok ?_
    exact eqBody_F okn ok H
  · rw [if_neg hn]
    have hn' : (namedD b).2 = false := by simpa using hn
    rw [hn', Bool.false_and] at H
    exact H

theorem msgEntry_spec (g : GH) (e : EntryT) (ok : ShEntry.ok e) {R : Value → Heap → Prop} (H : ∀ g' : GH, Mv [] g g' → R (.bool (entryOk e)) g'.h) : HC Try.prog F.msg_Entry #[.agg ⟨ShEntry.enc e⟩] R g.h := by
  refine msg_Entry.calls ?_
  unfold msg_Entry.body
  refine new_C g 0 fun p q1 m1 hb => ?_
  have E := entryAt ok (blkCells hb)
  have hH := H q1 m1
  unfold entryOk at H hH
  simp only [derefK_some, fldK_some, Nat.zero_add, Nat.add_zero, Nat.reduceAdd, inj_int, inj_bool, inj_str, inj_ptr, inj_map, inj_slice, exists_eq_left, List.getElem?_toArray, List.getElem?_cons_zero, List.getElem?_cons_succ, Option.isNone_some, Option.isNone_none, Bool.not_true, Bool.not_false, Bool.false_eq_true, if_true, if_false, reduceIte, eq_self, not_true_eq_false, not_false_eq_true, bne_self_eq_false, beq_self_eq_true, decide_true, decide_false, decide_eq_true_eq, beq_iff_eq, bne_iff_ne, ne_eq]
  refine loadK_cells E.number (k := .int .i64) (j := 0) e.number rfl rfl ?_
  by_cases h1 : 0 ≤ e.number
  · rw [if_pos (by simpa using h1)]
    rw [decide_eq_true h1, Bool.true_and] at H hH
    refine loadK_cells E.number (k := .int .i64) (j := 0) e.number rfl rfl ?_
    by_cases h2 : e.number ≤ 4294967295
    · rw [if_pos (by simpa using h2)]
      rw [decide_eq_true h2, Bool.true_and] at H hH
      refine loadBodyAt E.what ok.2.2.2.1 ?_
      exact msgBody_spec q1 e.what ok.2.2.2.1 fun q2 m2 => ⟨_, rfl, H q2 ((m1.trans m2).mono (by simp))⟩
    · rw [if_neg (by simpa using h2)]
      rw [decide_eq_false h2, Bool.false_and] at hH
      exact hH
  · rw [if_neg (by simpa using h1)]
    rw [decide_eq_false h1, Bool.false_and] at hH
    exact hH

end Go.Proofs.Ytijipdaofojbiaa

/-!
  The package msg: which messages are right.
-/
namespace Go.Proofs.Ytijipdaofojbiaa
open Go Go.Ev

section
variable {g : GH} {c p : Nat} {x : MsgT}
end

end Go.Proofs.Ytijipdaofojbiaa
