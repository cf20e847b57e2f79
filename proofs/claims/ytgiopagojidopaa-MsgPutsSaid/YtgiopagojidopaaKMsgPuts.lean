/-
  Whether any message, any entry, any body is right, and their bytes, or the error, are what the document tells.
-/
import Derived.Test.YtgiopagojidopaaKMsgPut
import Derived.Test.YtgiopagojidopaaKRef18Put
set_option linter.unusedSimpArgs false
set_option linter.unusedVariables false
namespace Go.Proofs.Ytgiopagojidopaa
open Go Go.Ev

def bytesIf (b : Bool) (l : List Int) : List Int := if b = true then l else []
def errIf (b : Bool) : Int := if b = true then 0 else 2
theorem putMsg_any (g : GH) (c : Nat) (x : MsgT) (ok : ShMsg.ok x) {R : Value → Heap → Prop} (H : ∀ (s : Sl) (g' : GH), Mv [] g g' → RdC 1 g' c s ((bytesIf (rightOk x) (msgB x)).map byV) → s.n ≤ s.c → R (.tuple #[.slice s.a s.n s.c, .int .i64 (errIf (rightOk x))]) g'.h) : HC Try.prog F.msg_Put #[.agg ⟨ShMsg.enc x⟩] R g.h := by
  refine putMsg_spec g c x ok (fun h s g' m o => ?_) (fun h g' m => ?_)
  · have := H s g' m (by rw [h]; exact o.rd) o.cap
    rw [h] at this; exact this
  · have := H ⟨none, 0, 0⟩ g' m (by rw [h]; exact RdC.nil _ _ _ _ _) (Nat.le_refl _)
    rw [h] at this; exact this
theorem ref18Put_any (g : GH) (c : Nat) (x : MsgT) (ok : ShMsg.ok x) {R : Value → Heap → Prop} (H : ∀ (s : Sl) (g' : GH), Mv [] g g' → RdC 1 g' c s ((bytesIf (rightOk x) (msgB x)).map byV) → R (.tuple #[.slice s.a s.n s.c, .int .i64 (errIf (rightOk x))]) g'.h) : HC Try.prog F.ref18_Put #[.agg ⟨ShMsg.enc x⟩] R g.h := by
  refine ref18Put_spec g c x ok (fun h s g' m o => ?_) (fun h g' m => ?_)
  · have := H s g' m (by rw [h]; exact o)
    rw [h] at this; exact this
  · have := H ⟨none, 0, 0⟩ g' m (by rw [h]; exact RdC.nil _ _ _ _ _)
    rw [h] at this; exact this
theorem putEntry_any (g : GH) (c : Nat) (x : EntryT) (ok : ShEntry.ok x) {R : Value → Heap → Prop} (H : ∀ (s : Sl) (g' : GH), Mv [] g g' → RdC 1 g' c s ((bytesIf (entryOk x) (entryB x)).map byV) → s.n ≤ s.c → R (.tuple #[.slice s.a s.n s.c, .int .i64 (errIf (entryOk x))]) g'.h) : HC Try.prog F.msg_PutEntry #[.agg ⟨ShEntry.enc x⟩] R g.h := by
  refine putEntry_spec g c x ok (fun h s g' m o => ?_) (fun h g' m => ?_)
  · have := H s g' m (by rw [h]; exact o.rd) o.cap
    rw [h] at this; exact this
  · have := H ⟨none, 0, 0⟩ g' m (by rw [h]; exact RdC.nil _ _ _ _ _) (Nat.le_refl _)
    rw [h] at this; exact this
theorem ref18PutEntry_any (g : GH) (c : Nat) (x : EntryT) (ok : ShEntry.ok x) {R : Value → Heap → Prop} (H : ∀ (s : Sl) (g' : GH), Mv [] g g' → RdC 1 g' c s ((bytesIf (entryOk x) (entryB x)).map byV) → R (.tuple #[.slice s.a s.n s.c, .int .i64 (errIf (entryOk x))]) g'.h) : HC Try.prog F.ref18_PutEntry #[.agg ⟨ShEntry.enc x⟩] R g.h := by
  refine ref18PutEntry_spec g c x ok (fun h s g' m o => ?_) (fun h g' m => ?_)
  · have := H s g' m (by rw [h]; exact o)
    rw [h] at this; exact this
  · have := H ⟨none, 0, 0⟩ g' m (by rw [h]; exact RdC.nil _ _ _ _ _)
    rw [h] at this; exact this

abbrev mvBody (a b : Int) (o : Bool) : BodyT := (1, (a, b, 0, ()), o, 0, zero32, zero32, ())
theorem okMvBody {a b : Int} {o : Bool} (ha : (Sh.int .i64).ok a) (hb : (Sh.int .i64).ok b) : ShBody.ok (mvBody a b o) := ⟨(okI (by decide) : (Sh.int .i64).ok (1 : Int)), ⟨ha, hb, okI0, trivial⟩, trivial, okI0, ok0, ok0, trivial⟩
theorem law18Move_spec (g : GH) (a b : Int) (o : Bool) (ha : (Sh.int .i64).ok a) (hb : (Sh.int .i64).ok b) {R : Value → Heap → Prop} (H : ∀ g' : GH, Mv [] g g' → R (.agg ⟨ShBody.enc (mvBody a b o)⟩) g'.h) : HC Try.prog F.law18_move #[.int .i64 a, .int .i64 b, .bool o] R g.h := by
  refine law18_move.calls ?_
  unfold law18_move.body
  have m : Mv [1] g.base g.base := Mv.refl _ _
  rw [zBody]
  refine new_C g.base 1 fun p q1 m1 hb1 => ?_
  replace m := m.step m1 (by simp)
  refine ⟨⟨ShMove.enc (a, b, 0, ())⟩, fun w => by kernel_rfl, ⟨ShBody.enc (mvBody a b o)⟩, fun w => by kernel_rfl, ?_⟩
  have ok1 := okMvBody (o := o) ha hb
  refine result_C (n := 70) szBody dBody hb1 (lenBody okBody0) (lenBody ok1) (fun v hv => Sh.enc_one (s := ShBody) rfl v hv) fun q2 m2 => ?_
  replace m := m.step m2 (by simp)
  exact H (g.via q2 fun _ => 0) (m.via (by simp) _)

abbrev aw9 : List Int := 9 :: List.replicate 31 0
abbrev awMsg : MsgT := (4, aw9, 1, zero32, 0, zero32, entry0, ())
abbrev awEntry : EntryT := (zero32, 0, zero32, mvBody 12 28 false, ())
theorem okAw9 : ShTag.ok aw9 := okTag (by simp) (by
  intro x hx
  rcases List.mem_cons.1 hx with rfl | hx
  · unfold isByte; omega
  · rw [(List.mem_replicate.1 hx).2]; unfold isByte; omega)
theorem okAwMsg : ShMsg.ok awMsg := ⟨okI (by decide), okAw9, okI (by decide), ok0, okI0, ok0, okEntry0, trivial⟩
theorem okAwEntry : ShEntry.ok awEntry := ⟨ok0, okI0, ok0, okMvBody (okI (by decide)) (okI (by decide)), trivial⟩

set_option maxRecDepth 100000 in
theorem awake18_spec (g : GH) {R : Value → Heap → Prop} (H : ∀ g' : GH, Mv [] g g' → R (.bool true) g'.h) : HC Try.prog F.law18_awake #[] R g.h := by
  refine law18_awake.calls ?_
  unfold law18_awake.body
  have m : Mv [1] g.base g.base := Mv.refl _ _
  refine ⟨⟨ShTag.enc aw9⟩, fun w => by kernel_rfl, ⟨ShMsg.enc awMsg⟩, fun w => by kernel_rfl, ?_⟩
  have hr : rightOk awMsg = true := by kernel_rfl
  have he : entryOk awEntry = true := by kernel_rfl
  have hmb : bytesIf (rightOk awMsg) (msgB awMsg) = 4 :: (aw9 ++ [1]) := by rw [hr]; kernel_rfl
  have heb : bytesIf (entryOk awEntry) (entryB awEntry) = zero32 ++ ([0, 0, 0, 0] ++ (zero32 ++ [1, 12, 28, 0, 0])) := by rw [he]; kernel_rfl
  refine putMsg_any g.base 1 awMsg okAwMsg fun s1 q1 m1 r1 c1 => ⟨(s1, _), rfl, ?_⟩
  replace m := m.step m1 (by simp)
  refine law18Move_spec q1 12 28 false (okI (by decide)) (okI (by decide)) fun q2 m2 => ⟨_, rfl, ?_⟩
  replace m := m.step m2 (by simp)
  replace r1 := r1.mv m2 (by simp)
  refine ⟨⟨ShEntry.enc awEntry⟩, fun w => by kernel_rfl, ?_⟩
  refine putEntry_any q2 1 awEntry okAwEntry fun s3 q3 m3 r3 c3 => ⟨(s3, _), rfl, ?_⟩
  replace m := m.step m3 (by simp)
  replace r1 := r1.mv m3 (by simp)
  rw [hmb] at r1
  rw [heb] at r3
  try dsimp only
  have n1 := r1.len
  have n3 := r3.len
  simp only [List.length_map, List.length_cons, List.length_append, List.length_replicate, List.length_nil, Nat.reduceAdd] at n1 n3
  try dsimp only
  rw [if_neg (by decide), if_neg (by decide), if_neg (by rw [n1]; decide), if_neg (by rw [n3]; decide)]
  refine idxLoad_C r1 zU8 (by decide) (k := .int .u8) 4 (by kernel_rfl) ?_
  rw [if_pos (by decide)]
  refine idxLoad_C r1 zU8 (by decide) (k := .int .u8) 9 (by kernel_rfl) ?_
  rw [if_pos (by decide)]
  refine idxLoad_C r1 zU8 (by decide) (k := .int .u8) 1 (by kernel_rfl) ?_
  rw [if_pos (by decide)]
  refine slice_from (n := 68) rfl (by omega) c3 ?_
  have r4 := r3.drop (n := 68) zU8 (by simp) c3
  rw [← List.map_drop] at r4
  have hd : List.drop 68 (zero32 ++ ([0, 0, 0, 0] ++ (zero32 ++ [1, 12, 28, 0, 0]))) = [1, 12, 28, 0, 0] := by kernel_rfl
  rw [hd] at r4
  refine newSl_C q3 2 rfl fun s5 q5 m5 o5 _ _ => ?_
  replace m := m.step m5 (by simp)
  replace r4 := r4.mv m5 (by simp)
  refine SameBytes_spec ⟨_, _, _⟩ s5 _ [1, 12, 28, 0, 0] r4.rd o5.rd.rd (by decide) (by decide) ⟨_, rfl, ?_⟩
  try dsimp only
  rw [decide_eq_true rfl, if_pos rfl]
  refine law18Move_spec q5 12 64 false (okI (by decide)) (okI (by decide)) fun q6 m6 => ⟨_, rfl, ?_⟩
  replace m := m.step m6 (by simp)
  refine msgBody_spec q6 (mvBody 12 64 false) (okMvBody (okI (by decide)) (okI (by decide))) fun q7 m7 => ⟨_, rfl, ?_⟩
  replace m := m.step m7 (by simp)
  have hb : bodyOk (mvBody 12 64 false) = false := by kernel_rfl
  rw [hb]
  exact H (g.via q7 fun _ => 0) (m.via (by simp) _)

set_option maxHeartbeats 1000000 in
theorem MsgPuts_spec (g : GH) (x : MsgT) (e : EntryT) (okx : ShMsg.ok x) (oke : ShEntry.ok e) {R : Value → Heap → Prop} (H : ∀ g' : GH, Mv [] g g' → R (.bool true) g'.h) : HC Try.prog F.law18_MsgPuts #[.agg ⟨ShMsg.enc x⟩, .agg ⟨ShEntry.enc e⟩] R g.h := by
  refine law18_MsgPuts.calls ?_
  unfold law18_MsgPuts.body
  have m : Mv [1] g.base g.base := Mv.refl _ _
  refine new_C g.base 1 fun p q1 m1 bm => ?_
  replace m := m.step m1 (by simp)
  refine new_C q1 1 fun p2 q2 m2 be => ?_
  replace m := m.step m2 (by simp)
  replace bm := bm.mv m2 (by simp)
  refine loadMsgAt (blkCells bm) okx ?_
  refine putMsg_any q2 2 x okx fun s3 q3 m3 r3 c3 => ⟨(s3, _), rfl, ?_⟩
  replace m := m.step m3 (by simp)
  replace bm := bm.mv m3 (by simp)
  replace be := be.mv m3 (by simp)
  refine loadMsgAt (blkCells bm) okx ?_
  refine ref18Put_any q3 2 x okx fun s4 q4 m4 r4 => ⟨(s4, _), rfl, ?_⟩
  replace m := m.step m4 (by simp)
  replace bm := bm.mv m4 (by simp)
  replace be := be.mv m4 (by simp)
  replace r3 := r3.mv m4 (by simp)
  refine loadEntryAt (blkCells be) oke ?_
  refine putEntry_any q4 2 e oke fun s5 q5 m5 r5 c5 => ⟨(s5, _), rfl, ?_⟩
  replace m := m.step m5 (by simp)
  replace bm := bm.mv m5 (by simp)
  replace be := be.mv m5 (by simp)
  replace r3 := r3.mv m5 (by simp)
  replace r4 := r4.mv m5 (by simp)
  refine loadEntryAt (blkCells be) oke ?_
  refine ref18PutEntry_any q5 2 e oke fun s6 q6 m6 r6 => ⟨(s6, _), rfl, ?_⟩
  replace m := m.step m6 (by simp)
  replace bm := bm.mv m6 (by simp)
  replace be := be.mv m6 (by simp)
  replace r3 := r3.mv m6 (by simp)
  replace r4 := r4.mv m6 (by simp)
  replace r5 := r5.mv m6 (by simp)
  have l1 : (bytesIf (rightOk x) (msgB x)).length ≤ 200 := by
    have := msgB_len okx
    unfold bytesIf; split <;> simp <;> omega
  have l2 : (bytesIf (entryOk e) (entryB e)).length ≤ 200 := by
    have := entryB_len oke
    unfold bytesIf; split <;> simp <;> omega
  refine joinW_intro (fun b h' => b = true ∧ ∃ q : GH, h' = q.h ∧ Mv [1] g.base q ∧ RdC 1 q 2 s3 ((bytesIf (rightOk x) (msgB x)).map byV) ∧ RdC 1 q 2 s4 ((bytesIf (rightOk x) (msgB x)).map byV) ∧ RdC 1 q 2 s5 ((bytesIf (entryOk e) (entryB e)).map byV) ∧ RdC 1 q 2 s6 ((bytesIf (entryOk e) (entryB e)).map byV)) ?_ ?_
  · intro J hJ
    have okxe : ShEntry.ok x.entry := okx.2.2.2.2.2.2.1
    have okb : ShBody.ok e.what := oke.2.2.2.1
    refine loadMsgAt (blkCells bm) okx ?_
    refine loadMsgAt (blkCells bm) okx ?_
    refine msgRight_spec q6 x okx fun q7 m7 => ⟨_, rfl, ?_⟩
    replace m := m.step m7 (by simp)
    replace bm := bm.mv m7 (by simp)
    replace be := be.mv m7 (by simp)
    replace r3 := r3.mv m7 (by simp)
    replace r4 := r4.mv m7 (by simp)
    replace r5 := r5.mv m7 (by simp)
    replace r6 := r6.mv m7 (by simp)
    refine ⟨stillF (s := ShMsg) (blkCells bm) szMsg (by decide) (lenMsg okx), ?_⟩
    refine ref18Right_spec q7 x okx fun q8 m8 => ⟨_, rfl, ?_⟩
    replace m := m.step m8 (by simp)
    replace bm := bm.mv m8 (by simp)
    replace be := be.mv m8 (by simp)
    replace r3 := r3.mv m8 (by simp)
    replace r4 := r4.mv m8 (by simp)
    replace r5 := r5.mv m8 (by simp)
    replace r6 := r6.mv m8 (by simp)
    -- behind the entries' answers
    have tail : ∀ q : GH, Mv [1] g.base q → BlkC q 1 p ⟨ShMsg.enc x⟩ T.api_Msg → BlkC q 1 p2 ⟨ShEntry.enc e⟩ T.api_Entry → RdC 1 q 2 s3 ((bytesIf (rightOk x) (msgB x)).map byV) → RdC 1 q 2 s4 ((bytesIf (rightOk x) (msgB x)).map byV) → RdC 1 q 2 s5 ((bytesIf (entryOk e) (entryB e)).map byV) → RdC 1 q 2 s6 ((bytesIf (entryOk e) (entryB e)).map byV) →
        fldK (some ⟨p2, 0, none⟩) 65 (fun (a_24 : Addr) =>
        fldK (some ⟨p2, 0, none⟩) 65 (fun (a_25 : Addr) =>
        loadAggK (sizeOfT Try.prog T.api_Body) q.h ((some a_24)) (fun (v_26 : Array Value) =>
        loadAggK (sizeOfT Try.prog T.api_Body) q.h ((some a_25)) (fun (v_27 : Array Value) =>
        callK Try.prog .bool F.msg_Body #[(.agg v_26)] (fun (v_28 : Bool) (h : Heap) =>
        stillAggK (sizeOfT Try.prog T.api_Body) h ((some a_25)) v_27 ∧
        callK Try.prog .bool F.ref18_Body #[(.agg v_27)] (fun (v_29 : Bool) (h : Heap) =>
        if (v_28 == v_29) = true then
        fldK (some ⟨p, 0, none⟩) 99 (fun (a_30 : Addr) =>
        fldK (some ⟨p, 0, none⟩) 99 (fun (a_31 : Addr) =>
        loadAggK (sizeOfT Try.prog T.api_Entry) h ((some a_30)) (fun (v_32 : Array Value) =>
        loadAggK (sizeOfT Try.prog T.api_Entry) h ((some a_31)) (fun (v_33 : Array Value) =>
        callK Try.prog .bool F.msg_Entry #[(.agg v_32)] (fun (v_34 : Bool) (h : Heap) =>
        stillAggK (sizeOfT Try.prog T.api_Entry) h ((some a_31)) v_33 ∧
        callK Try.prog .bool F.ref18_Entry #[(.agg v_33)] (fun (v_35 : Bool) (h : Heap) =>
        J (v_34 == v_35) h) h) h))))
        else J false h) h) q.h)))) := fun q m bm be r3 r4 r5 r6 => by
      have E := entryAt oke (blkCells be)
      simp only [derefK_some, fldK_some, Nat.zero_add, Nat.add_zero, Nat.reduceAdd, inj_int, inj_bool, inj_str, inj_ptr, inj_map, inj_slice, exists_eq_left, List.getElem?_toArray, List.getElem?_cons_zero, List.getElem?_cons_succ, Option.isNone_some, Option.isNone_none, Bool.not_true, Bool.not_false, Bool.false_eq_true, if_true, if_false, reduceIte, eq_self, not_true_eq_false, not_false_eq_true, bne_self_eq_false, beq_self_eq_true, decide_true, decide_false, decide_eq_true_eq, beq_iff_eq, bne_iff_ne, ne_eq]
      refine loadBodyAt E.what okb ?_
      refine loadBodyAt E.what okb ?_
      refine msgBody_spec q e.what okb fun q1 m1 => ⟨_, rfl, ?_⟩
      replace m := m.step m1 (by simp)
      replace bm := bm.mv m1 (by simp)
      replace be := be.mv m1 (by simp)
      replace r3 := r3.mv m1 (by simp)
      replace r4 := r4.mv m1 (by simp)
      replace r5 := r5.mv m1 (by simp)
      replace r6 := r6.mv m1 (by simp)
      have E := entryAt oke (blkCells be)
      refine ⟨stillF (s := ShBody) E.what szBody (by decide) (lenBody okb), ?_⟩
      refine ref18Body_spec q1 e.what okb fun q2 m2 => ⟨_, rfl, ?_⟩
      replace m := m.step m2 (by simp)
      replace bm := bm.mv m2 (by simp)
      replace be := be.mv m2 (by simp)
      replace r3 := r3.mv m2 (by simp)
      replace r4 := r4.mv m2 (by simp)
      replace r5 := r5.mv m2 (by simp)
      replace r6 := r6.mv m2 (by simp)
      try dsimp only
      rw [if_pos (by simp)]
      have M := msgAt okx (blkCells bm)
      refine loadEntryAt M.entry okxe ?_
      refine loadEntryAt M.entry okxe ?_
      refine msgEntry_spec q2 x.entry okxe fun q3 m3 => ⟨_, rfl, ?_⟩
      replace m := m.step m3 (by simp)
      replace bm := bm.mv m3 (by simp)
      replace be := be.mv m3 (by simp)
      replace r3 := r3.mv m3 (by simp)
      replace r4 := r4.mv m3 (by simp)
      replace r5 := r5.mv m3 (by simp)
      replace r6 := r6.mv m3 (by simp)
      have M := msgAt okx (blkCells bm)
      refine ⟨stillF (s := ShEntry) M.entry szEntry (by decide) (lenEntry okxe), ?_⟩
      refine ref18Entry_spec q3 x.entry okxe fun q4 m4 => ⟨_, rfl, ?_⟩
      replace m := m.step m4 (by simp)
      replace bm := bm.mv m4 (by simp)
      replace be := be.mv m4 (by simp)
      replace r3 := r3.mv m4 (by simp)
      replace r4 := r4.mv m4 (by simp)
      replace r5 := r5.mv m4 (by simp)
      replace r6 := r6.mv m4 (by simp)
      exact hJ _ _ ⟨by simp, q4, rfl, m, r3, r4, r5, r6⟩
    refine ⟨?_, ?_⟩
    · rw [if_pos (by simp)]
      refine loadEntryAt (blkCells be) oke ?_
      refine loadEntryAt (blkCells be) oke ?_
      refine msgEntry_spec q8 e oke fun q9 m9 => ⟨_, rfl, ?_⟩
      replace m := m.step m9 (by simp)
      replace bm := bm.mv m9 (by simp)
      replace be := be.mv m9 (by simp)
      replace r3 := r3.mv m9 (by simp)
      replace r4 := r4.mv m9 (by simp)
      replace r5 := r5.mv m9 (by simp)
      replace r6 := r6.mv m9 (by simp)
      refine ⟨stillF (s := ShEntry) (blkCells be) szEntry (by decide) (lenEntry oke), ?_⟩
      refine ref18Entry_spec q9 e oke fun q10 m10 => ⟨_, rfl, ?_⟩
      replace m := m.step m10 (by simp)
      replace bm := bm.mv m10 (by simp)
      replace be := be.mv m10 (by simp)
      replace r3 := r3.mv m10 (by simp)
      replace r4 := r4.mv m10 (by simp)
      replace r5 := r5.mv m10 (by simp)
      replace r6 := r6.mv m10 (by simp)
      try dsimp only
      rw [if_pos (by simp)]
      exact tail q10 m bm be r3 r4 r5 r6
    · rw [if_pos (by simp)]
      refine loadEntryAt (blkCells be) oke ?_
      refine loadEntryAt (blkCells be) oke ?_
      refine msgEntry_spec q8 e oke fun q9 m9 => ⟨_, rfl, ?_⟩
      replace m := m.step m9 (by simp)
      replace bm := bm.mv m9 (by simp)
      replace be := be.mv m9 (by simp)
      replace r3 := r3.mv m9 (by simp)
      replace r4 := r4.mv m9 (by simp)
      replace r5 := r5.mv m9 (by simp)
      replace r6 := r6.mv m9 (by simp)
      refine ref18Entry_spec q9 e oke fun q10 m10 => ⟨_, rfl, ?_⟩
      replace m := m.step m10 (by simp)
      replace bm := bm.mv m10 (by simp)
      replace be := be.mv m10 (by simp)
      replace r3 := r3.mv m10 (by simp)
      replace r4 := r4.mv m10 (by simp)
      replace r5 := r5.mv m10 (by simp)
      replace r6 := r6.mv m10 (by simp)
      try dsimp only
      rw [if_pos (by simp)]
      exact tail q10 m bm be r3 r4 r5 r6
  · rintro _ _ ⟨rfl, q, rfl, m, r3, r4, r5, r6⟩
    rw [if_pos rfl]
    refine SameBytes_spec s3 s4 _ _ r3.rd r4.rd (by omega) (by omega) ⟨_, rfl, ?_⟩
    try dsimp only
    rw [decide_eq_true rfl, if_pos rfl, if_pos (by simp)]
    refine SameBytes_spec s5 s6 _ _ r5.rd r6.rd (by omega) (by omega) ⟨_, rfl, ?_⟩
    try dsimp only
    rw [decide_eq_true rfl, if_pos rfl, if_pos (by simp)]
    refine awake18_spec q fun q2 m2 => ⟨_, rfl, ?_⟩
    replace m := m.step m2 (by simp)
    exact H (g.via q2 fun _ => 0) (m.via (by simp) _)

theorem msgArg {g : GH} {c : Nat} {x : MsgT} {cs : Array Value} (l : LayC g c ShMsg x cs.toList) : cs = ⟨ShMsg.enc x⟩ ∧ ShMsg.ok x := by
  obtain ⟨h1, h2⟩ := LayC.enc (s := ShMsg) rfl l
  exact ⟨Array.toList_inj.1 h1, h2⟩
theorem entryArg {g : GH} {c : Nat} {x : EntryT} {cs : Array Value} (l : LayC g c ShEntry x cs.toList) : cs = ⟨ShEntry.enc x⟩ ∧ ShEntry.ok x := by
  obtain ⟨h1, h2⟩ := LayC.enc (s := ShEntry) rfl l
  exact ⟨Array.toList_inj.1 h1, h2⟩

theorem MsgPuts_walk {h : Heap} (c1 : Array Value) (x : MsgT) (w1 : Lay h ShMsg x c1.toList) (c2 : Array Value) (e : EntryT) (w2 : Lay h ShEntry e c2.toList) : HC Try.prog F.law18_MsgPuts #[.agg c1, .agg c2] (fun v h' => v = .bool true ∧ Ext h h') h := by
  obtain ⟨rfl, h1⟩ := msgArg (g := ⟨h, fun _ => 0⟩) (c := 0) (w1.arg (Mv.refl [] _) (by simp))
  obtain ⟨rfl, h2⟩ := entryArg (g := ⟨h, fun _ => 0⟩) (c := 0) (w2.arg (Mv.refl [] _) (by simp))
  exact MsgPuts_spec ⟨h, fun _ => 0⟩ x e h1 h2 fun g' m => ⟨rfl, m.ext (by simp)⟩

end Go.Proofs.Ytgiopagojidopaa
