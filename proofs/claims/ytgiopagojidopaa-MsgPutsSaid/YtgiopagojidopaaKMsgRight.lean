/-
  The package msg: which messages are right.
-/
import Derived.Test.YtgiopagojidopaaKMsg
set_option linter.unusedSimpArgs false
set_option linter.unusedVariables false
namespace Go.Proofs.Ytgiopagojidopaa
open Go Go.Ev

theorem fillA_step {place : Nat → Option (Nat × Nat)} {cells : Array Value} {i off size : Nat} {v : Value} {rest : List (Nat × Value)} (h1 : place i = some (off, size)) (h2 : v.cells.size = size) (h3 : off + size ≤ cells.size) : fillA place cells ((i, v) :: rest) = fillA place (overA cells off v.cells.toList) rest := by
  rw [fillA]
  simp only [h1]
  rw [if_neg (by simp [h2]; omega)]

abbrev placesMsg : Array (Nat × Nat) := #[(0, 1), (1, 32), (33, 1), (34, 32), (66, 1), (67, 32), (99, 135)]
theorem runPlacesMsg (w : World) : ((structFs Try.prog T.api_Msg).mapM fun f => do pure (f.offset, ← sizeOf f.type) : Sem (Array (Nat × Nat))).run Try.prog w = .ok placesMsg w := by kernel_rfl
theorem structMsg : Try.prog.underlying T.api_Msg = some (.struct (structFs Try.prog T.api_Msg)) := by kernel_rfl
theorem zeroMsg (w : World) : (zeroValue T.api_Msg).run Try.prog w = .ok (.agg ⟨ShMsg.enc msg0⟩) w := by kernel_rfl

theorem msgOverKind (x : MsgT) (n : Int) : overA ⟨ShMsg.enc x⟩ 0 [.int .i64 n] = ⟨ShMsg.enc (n, x.2)⟩ := over_at (pre := []) (mid := [.int .i64 x.1]) rfl rfl
theorem msgOverGame (x : MsgT) (t : List Int) (ht : ShTag.ok t) (hx : ShTag.ok x.game) : overA ⟨ShMsg.enc x⟩ 1 (ShTag.enc t) = ⟨ShMsg.enc (x.1, t, x.2.2)⟩ := over_at (pre := [.int .i64 x.1]) (mid := ShTag.enc x.game) rfl (by rw [lenTag ht, lenTag hx])
theorem msgOverSender (x : MsgT) (n : Int) (hg : ShTag.ok x.game) : overA ⟨ShMsg.enc x⟩ 33 [.int .i64 n] = ⟨ShMsg.enc (x.1, x.2.1, n, x.2.2.2)⟩ := by
  have e : ∀ k : Int, ShMsg.enc (x.1, x.2.1, k, x.2.2.2) = ([.int .i64 x.1] ++ ShTag.enc x.game) ++ ([.int .i64 k] ++ Sh.enc (.pair ShTag (.pair (.int .i64) (.pair ShTag (.pair ShEntry .unit)))) x.2.2.2) := fun k => by simp [Sh.enc]
  have h := e x.sender
  have hx' : x = (x.1, x.2.1, x.sender, x.2.2.2) := rfl
  rw [hx', h, e n]
  exact over_at (by simp [lenTag hg]) rfl

theorem okMsg0 : ShMsg.ok msg0 := ⟨okI0, ok0, okI0, ok0, okI0, ok0, okEntry0, trivial⟩
theorem msgRoom {x : MsgT} (ok : ShMsg.ok x) {n : Nat} (h : n ≤ 234) : n ≤ (⟨ShMsg.enc x⟩ : Array Value).size := by
  rw [List.size_toArray, lenMsg ok]; exact h
theorem build_Msg3 (k f : Int) (t : List Int) (ht : ShTag.ok t) (hk : (Sh.int .i64).ok k) (w : World) : (Instr.build T.api_Msg #[(0, .int .i64 k), (1, .agg ⟨ShTag.enc t⟩), (2, .int .i64 f)]).run Try.prog w = .ok (.agg ⟨ShMsg.enc (k, t, f, zero32, 0, zero32, entry0, ())⟩) w := by
  have okk : ShMsg.ok (k, zero32, 0, zero32, 0, zero32, entry0, ()) := ⟨hk, ok0, okI0, ok0, okI0, ok0, okEntry0, trivial⟩
  refine build_struct structMsg zeroMsg runPlacesMsg ?_ w
  show fillA (placesMsg[·]?) ⟨ShMsg.enc msg0⟩ [(0, .int .i64 k), (1, .agg ⟨ShTag.enc t⟩), (2, .int .i64 f)] = _
  rw [fillA_step (off := 0) (size := 1) rfl rfl (msgRoom okMsg0 (by decide))]
  show fillA _ (overA ⟨ShMsg.enc msg0⟩ 0 [.int .i64 k]) _ = _
  rw [msgOverKind]
  rw [fillA_step (off := 1) (size := 32) rfl (by simpa [Value.cells] using lenTag ht) (msgRoom okk (by decide))]
  show fillA _ (overA ⟨ShMsg.enc (k, zero32, 0, zero32, 0, zero32, entry0, ())⟩ 1 (ShTag.enc t)) _ = _
  rw [msgOverGame _ _ ht ok0]
  have okt : ShMsg.ok (k, t, 0, zero32, 0, zero32, entry0, ()) := ⟨hk, ht, okI0, ok0, okI0, ok0, okEntry0, trivial⟩
  rw [fillA_step (off := 33) (size := 1) rfl rfl (msgRoom okt (by decide))]
  show fillA _ (overA ⟨ShMsg.enc (k, t, 0, zero32, 0, zero32, entry0, ())⟩ 33 [.int .i64 f]) [] = _
  rw [msgOverSender _ _ ht]
  rfl
theorem build_Msg2 (k : Int) (t : List Int) (ht : ShTag.ok t) (hk : (Sh.int .i64).ok k) (w : World) : (Instr.build T.api_Msg #[(0, .int .i64 k), (1, .agg ⟨ShTag.enc t⟩)]).run Try.prog w = .ok (.agg ⟨ShMsg.enc (k, t, 0, zero32, 0, zero32, entry0, ())⟩) w := by
  have okk : ShMsg.ok (k, zero32, 0, zero32, 0, zero32, entry0, ()) := ⟨hk, ok0, okI0, ok0, okI0, ok0, okEntry0, trivial⟩
  refine build_struct structMsg zeroMsg runPlacesMsg ?_ w
  show fillA (placesMsg[·]?) ⟨ShMsg.enc msg0⟩ [(0, .int .i64 k), (1, .agg ⟨ShTag.enc t⟩)] = _
  rw [fillA_step (off := 0) (size := 1) rfl rfl (msgRoom okMsg0 (by decide))]
  show fillA _ (overA ⟨ShMsg.enc msg0⟩ 0 [.int .i64 k]) _ = _
  rw [msgOverKind]
  rw [fillA_step (off := 1) (size := 32) rfl (by simpa [Value.cells] using lenTag ht) (msgRoom okk (by decide))]
  show fillA _ (overA ⟨ShMsg.enc (k, zero32, 0, zero32, 0, zero32, entry0, ())⟩ 1 (ShTag.enc t)) _ = _
  rw [msgOverGame _ _ ht ok0]
  rfl

section
variable {g : GH} {c p : Nat} {x : MsgT}
theorem mSender (hb : BlkC g c p ⟨ShMsg.enc x⟩ T.api_Msg) (ok : ShMsg.ok x) (n : Int) {K : Heap → Prop} (H : ∀ g' : GH, Mv [c] g g' → BlkC g' c p ⟨ShMsg.enc (x.1, x.2.1, n, x.2.2.2)⟩ T.api_Msg → K g'.h) : storeK g.h (some ⟨p, 33, none⟩) (.int .i64 n) K := by
  have hl := lenMsg ok
  refine store_C hb (by simp only [List.size_toArray]; omega) rfl fun g' m b => ?_
  rw [msgSetSender x n ok.2.1] at b
  exact H g' m b
theorem mCommit (hb : BlkC g c p ⟨ShMsg.enc x⟩ T.api_Msg) (ok : ShMsg.ok x) (t : List Int) (ht : ShTag.ok t) {K : Heap → Prop} (H : ∀ g' : GH, Mv [c] g g' → BlkC g' c p ⟨ShMsg.enc (x.1, x.2.1, x.2.2.1, t, x.2.2.2.2)⟩ T.api_Msg → K g'.h) : storeAggK (sizeOfT Try.prog T.api_Tag) g.h (some ⟨p, 34, none⟩) ⟨ShTag.enc t⟩ K := by
  have hl := lenMsg ok
  refine storeAgg_C hb (by rw [szTag]; exact lenTag ht) (by rw [szTag]; simp only [List.size_toArray]; omega) (fun v hv => Sh.enc_one (s := ShTag) rfl v hv) fun g' m b => ?_
  rw [msgSetCommit x t ht ok.2.2.2.1 ok.2.1] at b
  exact H g' m b
theorem mBit (hb : BlkC g c p ⟨ShMsg.enc x⟩ T.api_Msg) (ok : ShMsg.ok x) (n : Int) {K : Heap → Prop} (H : ∀ g' : GH, Mv [c] g g' → BlkC g' c p ⟨ShMsg.enc (x.1, x.2.1, x.2.2.1, x.2.2.2.1, n, x.2.2.2.2.2)⟩ T.api_Msg → K g'.h) : storeK g.h (some ⟨p, 66, none⟩) (.int .i64 n) K := by
  have hl := lenMsg ok
  refine store_C hb (by simp only [List.size_toArray]; omega) rfl fun g' m b => ?_
  rw [msgSetBit x n ok.2.2.2.1 ok.2.1] at b
  exact H g' m b
theorem mNonce (hb : BlkC g c p ⟨ShMsg.enc x⟩ T.api_Msg) (ok : ShMsg.ok x) (t : List Int) (ht : ShTag.ok t) {K : Heap → Prop} (H : ∀ g' : GH, Mv [c] g g' → BlkC g' c p ⟨ShMsg.enc (x.1, x.2.1, x.2.2.1, x.2.2.2.1, x.2.2.2.2.1, t, x.2.2.2.2.2.2)⟩ T.api_Msg → K g'.h) : storeAggK (sizeOfT Try.prog T.api_Tag) g.h (some ⟨p, 67, none⟩) ⟨ShTag.enc t⟩ K := by
  have hl := lenMsg ok
  refine storeAgg_C hb (by rw [szTag]; exact lenTag ht) (by rw [szTag]; simp only [List.size_toArray]; omega) (fun v hv => Sh.enc_one (s := ShTag) rfl v hv) fun g' m b => ?_
  rw [msgSetNonce x t ht ok.2.2.2.2.2.1 ok.2.2.2.1 ok.2.1] at b
  exact H g' m b
theorem mEntry (hb : BlkC g c p ⟨ShMsg.enc x⟩ T.api_Msg) (ok : ShMsg.ok x) (t : EntryT) (ht : ShEntry.ok t) {K : Heap → Prop} (H : ∀ g' : GH, Mv [c] g g' → BlkC g' c p ⟨ShMsg.enc (x.1, x.2.1, x.2.2.1, x.2.2.2.1, x.2.2.2.2.1, x.2.2.2.2.2.1, t, ())⟩ T.api_Msg → K g'.h) : storeAggK (sizeOfT Try.prog T.api_Entry) g.h (some ⟨p, 99, none⟩) ⟨ShEntry.enc t⟩ K := by
  have hl := lenMsg ok
  refine storeAgg_C hb (by rw [szEntry]; exact lenEntry ht) (by rw [szEntry]; simp only [List.size_toArray]; omega) (fun v hv => Sh.enc_one (s := ShEntry) rfl v hv) fun g' m b => ?_
  rw [msgSetEntry x t ht ok.2.2.2.2.2.2.1 ok.2.2.2.2.2.1 ok.2.2.2.1 ok.2.1] at b
  exact H g' m b
end

theorem okMsg3 {m : MsgT} (ok : ShMsg.ok m) : ShMsg.ok (m.kind, m.game, m.sender, zero32, 0, zero32, entry0, ()) := ⟨ok.1, ok.2.1, ok.2.2.1, ok0, okI0, ok0, okEntry0, trivial⟩
theorem okHas {m : MsgT} (ok : ShMsg.ok m) : ShMsg.ok (hasMsg m) := by
  obtain ⟨h1, h2, h3, h4, h5, h6, h7, _⟩ := ok
  unfold hasMsg
  split
  · exact ⟨h1, h2, h3, h4, okI0, ok0, okEntry0, trivial⟩
  split
  · exact ⟨h1, h2, h3, ok0, h5, h6, okEntry0, trivial⟩
  split
  · exact ⟨h1, h2, okI0, ok0, okI0, ok0, h7, trivial⟩
  · exact ⟨h1, h2, h3, ok0, okI0, ok0, okEntry0, trivial⟩

set_option maxHeartbeats 1000000 in
theorem msgRight_spec (g : GH) (x : MsgT) (ok : ShMsg.ok x) {R : Value → Heap → Prop} (H : ∀ g' : GH, Mv [] g g' → R (.bool (rightOk x)) g'.h) : HC Try.prog F.msg_Right #[.agg ⟨ShMsg.enc x⟩] R g.h := by
  refine msg_Right.calls ?_
  unfold msg_Right.body
  have m : Mv [1, 2] g.base g.base := Mv.refl _ _
  refine new_C g.base 1 fun p q1 m1 hb => ?_
  replace m := m.step m1 (by simp)
  have B := msgAt ok (blkCells hb)
  simp only [derefK_some, fldK_some, Nat.zero_add, Nat.add_zero, Nat.reduceAdd, inj_int, inj_bool, inj_str, inj_ptr, inj_map, inj_slice, exists_eq_left, List.getElem?_toArray, List.getElem?_cons_zero, List.getElem?_cons_succ, Option.isNone_some, Option.isNone_none, Bool.not_true, Bool.not_false, Bool.false_eq_true, if_true, if_false, reduceIte, eq_self, not_true_eq_false, not_false_eq_true, bne_self_eq_false, beq_self_eq_true, decide_true, decide_false, decide_eq_true_eq, beq_iff_eq, bne_iff_ne, ne_eq]
  refine loadK_cells B.kind (k := .int .i64) (j := 0) x.kind rfl rfl ?_
  refine loadTagAt B.game ok.2.1 ?_
  refine loadK_cells B.sender (k := .int .i64) (j := 0) x.sender rfl rfl ?_
  refine ⟨_, build_Msg3 x.kind x.sender x.game ok.2.1 ok.1, ?_⟩
  have ok1 := okMsg3 ok
  rw [zMsg]
  refine newStore_C q1 2 (by rw [szMsg]; exact lenMsg ok1) (by rw [szMsg]; rfl) (fun v hv => Sh.enc_one (s := ShMsg) rfl v hv) fun p2 q2 m2 hh => ?_
  replace m := m.step m2 (by simp)
  replace hb := hb.mv m2 (by simp)
  have fin : ∀ q : GH, Mv [1, 2] g.base q → R (.bool (rightOk x)) q.h := fun q m => H (g.via q fun _ => 0) (m.via (by simp) _)
  refine joinW_intro (fun b h' => b = kindOk x ∧ (b = true → x.kind = 1 ∨ x.kind = 2 ∨ x.kind = 3 ∨ x.kind = 4) ∧ ∃ q : GH, h' = q.h ∧ Mv [1, 2] g.base q ∧ BlkC q 1 p ⟨ShMsg.enc x⟩ T.api_Msg ∧ (b = true → BlkC q 2 p2 ⟨ShMsg.enc (hasMsg x)⟩ T.api_Msg)) ?_ ?_
  · intro J hJ
    simp only [derefK_some, fldK_some, Nat.zero_add, Nat.add_zero, Nat.reduceAdd, inj_int, inj_bool, inj_str, inj_ptr, inj_map, inj_slice, exists_eq_left, List.getElem?_toArray, List.getElem?_cons_zero, List.getElem?_cons_succ, Option.isNone_some, Option.isNone_none, Bool.not_true, Bool.not_false, Bool.false_eq_true, if_true, if_false, reduceIte, eq_self, not_true_eq_false, not_false_eq_true, bne_self_eq_false, beq_self_eq_true, decide_true, decide_false, decide_eq_true_eq, beq_iff_eq, bne_iff_ne, ne_eq]
    have B := msgAt ok (blkCells hb)
    refine loadK_cells B.kind (k := .int .i64) (j := 0) x.kind rfl rfl ?_
    by_cases k1 : x.kind = 1
    · rw [if_pos (by simpa using k1)]
      have e1 : kindOk x = true := by unfold kindOk; rw [if_pos k1]
      have e2 : hasMsg x = (x.kind, x.game, x.sender, x.commit, 0, zero32, entry0, ()) := by unfold hasMsg; rw [if_pos k1]
      refine loadTagAt B.commit ok.2.2.2.1 ?_
      refine mCommit hh ok1 x.commit ok.2.2.2.1 fun q3 m3 hh => ?_
      replace m := m.step m3 (by simp)
      replace hb := hb.mv m3 (by simp)
      exact hJ _ _ ⟨e1.symm, fun _ => .inl k1, q3, rfl, m, hb, fun _ => by rw [e2]; exact hh⟩
    rw [if_neg (by simpa using k1)]
    by_cases k2 : x.kind = 2
    · rw [if_pos (by simpa using k2)]
      have e1 : kindOk x = bitOk x.bit := by unfold kindOk; rw [if_neg k1, if_pos k2]
      have e2 : hasMsg x = (x.kind, x.game, x.sender, zero32, x.bit, x.nonce, entry0, ()) := by unfold hasMsg; rw [if_neg k1, if_pos k2]
      refine loadK_cells B.bit (k := .int .i64) (j := 0) x.bit rfl rfl ?_
      refine loadTagAt B.nonce ok.2.2.2.2.2.1 ?_
      refine loadK_cells B.bit (k := .int .i64) (j := 0) x.bit rfl rfl ?_
      refine msgBit_spec x.bit ⟨_, rfl, ?_⟩
      refine ⟨stillF (s := ShTag) B.nonce szTag (by decide) (lenTag ok.2.2.2.2.2.1), stillK_cells B.bit (j := 0) rfl rfl, ?_⟩
      refine mBit hh ok1 x.bit fun q3 m3 hh => ?_
      replace m := m.step m3 (by simp)
      replace hb := hb.mv m3 (by simp)
      have B := msgAt ok (blkCells hb)
      refine ⟨stillF (s := ShTag) B.nonce szTag (by decide) (lenTag ok.2.2.2.2.2.1), ?_⟩
      refine mNonce hh ⟨ok.1, ok.2.1, ok.2.2.1, ok0, ok.2.2.2.2.1, ok0, okEntry0, trivial⟩ x.nonce ok.2.2.2.2.2.1 fun q4 m4 hh => ?_
      replace m := m.step m4 (by simp)
      replace hb := hb.mv m4 (by simp)
      exact hJ _ _ ⟨e1.symm, fun _ => .inr (.inl k2), q4, rfl, m, hb, fun _ => by rw [e2]; exact hh⟩
    rw [if_neg (by simpa using k2)]
    by_cases k3 : x.kind = 3
    · rw [if_pos (by simpa using k3)]
      have e1 : kindOk x = (entryOk x.entry && decide (x.entry.game = x.game)) := by unfold kindOk; rw [if_neg k1, if_neg k2, if_pos k3]
      have e2 : hasMsg x = (x.kind, x.game, 0, zero32, 0, zero32, x.entry, ()) := by unfold hasMsg; rw [if_neg k1, if_neg k2, if_pos k3]
      have oke : ShEntry.ok x.entry := ok.2.2.2.2.2.2.1
      refine loadEntryAt B.entry oke ?_
      refine loadEntryAt B.entry oke ?_
      refine msgEntry_spec q2 x.entry oke fun q3 m3 => ⟨_, rfl, ?_⟩
      replace m := m.step m3 (by simp)
      replace hb := hb.mv m3 (by simp)
      replace hh := hh.mv m3 (by simp)
      have B := msgAt ok (blkCells hb)
      have E := entryAt oke B.entry
      refine ⟨stillF (s := ShEntry) B.entry szEntry (by decide) (lenEntry oke), ?_⟩
      try dsimp only
      have okz : ShMsg.ok (x.kind, x.game, 0, zero32, 0, zero32, entry0, ()) := ⟨ok.1, ok.2.1, okI0, ok0, okI0, ok0, okEntry0, trivial⟩
      cases he : entryOk x.entry with
      | true =>
        rw [if_pos rfl]
        refine loadTagAt E.game oke.1 ?_
        refine loadTagAt B.game ok.2.1 ?_
        refine eqTag_F oke.1 ok.2.1 ?_
        refine mSender hh ok1 0 fun q4 m4 hh => ?_
        replace m := m.step m4 (by simp)
        replace hb := hb.mv m4 (by simp)
        have B := msgAt ok (blkCells hb)
        have E := entryAt oke B.entry
        refine ⟨stillF (s := ShTag) B.game szTag (by decide) (lenTag ok.2.1), stillF (s := ShTag) E.game szTag (by decide) (lenTag oke.1), stillF (s := ShEntry) B.entry szEntry (by decide) (lenEntry oke), ?_⟩
        refine mEntry hh okz x.entry oke fun q5 m5 hh => ?_
        replace m := m.step m5 (by simp)
        replace hb := hb.mv m5 (by simp)
        have B := msgAt ok (blkCells hb)
        have E := entryAt oke B.entry
        refine ⟨stillF (s := ShTag) B.game szTag (by decide) (lenTag ok.2.1), stillF (s := ShTag) E.game szTag (by decide) (lenTag oke.1), ?_⟩
        exact hJ _ _ ⟨by rw [e1, he, Bool.true_and], fun _ => .inr (.inr (.inl k3)), q5, rfl, m, hb, fun _ => by rw [e2]; exact hh⟩
      | false =>
        rw [if_neg (by simp)]
        refine mSender hh ok1 0 fun q4 m4 hh => ?_
        replace m := m.step m4 (by simp)
        replace hb := hb.mv m4 (by simp)
        have B := msgAt ok (blkCells hb)
        refine ⟨stillF (s := ShEntry) B.entry szEntry (by decide) (lenEntry oke), ?_⟩
        refine mEntry hh okz x.entry oke fun q5 m5 hh => ?_
        replace m := m.step m5 (by simp)
        replace hb := hb.mv m5 (by simp)
        exact hJ _ _ ⟨by rw [e1, he, Bool.false_and], fun _ => .inr (.inr (.inl k3)), q5, rfl, m, hb, fun _ => by rw [e2]; exact hh⟩
    rw [if_neg (by simpa using k3)]
    have e2 : hasMsg x = (x.kind, x.game, x.sender, zero32, 0, zero32, entry0, ()) := by unfold hasMsg; rw [if_neg k1, if_neg k2, if_neg k3]
    have e1 : kindOk x = (x.kind == 4) := by unfold kindOk; rw [if_neg k1, if_neg k2, if_neg k3]
    by_cases k4 : x.kind = 4
    · rw [if_pos (by simpa using k4)]
      exact hJ _ _ ⟨by rw [e1]; simp [k4], fun _ => .inr (.inr (.inr k4)), q2, rfl, m, hb, fun _ => by rw [e2]; exact hh⟩
    · rw [if_neg (by simpa using k4)]
      have hf := fin q2 m
      have e3 : (x.kind == 4) = false := by simpa using k4
      unfold rightOk at hf
      rw [e1, e3, Bool.false_and] at hf
      exact hf
  · rintro _ _ ⟨rfl, hk, q, rfl, m, hb, hh⟩
    have hf := fin q m
    unfold rightOk at hf
    cases hko : kindOk x with
    | false =>
      rw [if_neg (by simp)]
      rw [hko, Bool.false_and] at hf
      exact hf
    | true =>
      rw [if_pos rfl]
      rw [hko, Bool.true_and] at hf
      replace hh := hh hko
      have B := msgAt ok (blkCells hb)
      refine loadK_cells B.sender (k := .int .i64) (j := 0) x.sender rfl rfl ?_
      refine msgBit_spec x.sender ⟨_, rfl, ?_⟩
      try dsimp only
      cases hbo : bitOk x.sender with
      | false =>
        rw [if_neg (by simp)]
        rw [hbo, Bool.false_and] at hf
        exact hf
      | true =>
        rw [if_pos rfl]
        rw [hbo, Bool.true_and] at hf
        refine loadMsgAt (blkCells hh) (okHas ok) ?_
        refine loadMsgAt (blkCells hb) ok ?_
        exact eqMsg_F (okHas ok) ok hf

end Go.Proofs.Ytgiopagojidopaa
