/-
  The statement DrawBinds.
-/
import Derived.Test.YtgllngcoclnpeaaKLaw23
set_option linter.unusedSimpArgs false
set_option linter.unusedVariables false
namespace Go.Proofs.Ytgllngcoclnpeaa
open Go Go.Ev

theorem bitOk_iff {n : Int} : bitOk n = true ↔ n = 0 ∨ n = 1 := by unfold bitOk; simp
theorem hidden_right {x : DrwT} (h : x.player = 0 ∨ x.player = 1) : rightOk (hiddenT x) = true := by
  unfold rightOk
  have h1 : kindOk (hiddenT x) = true := by unfold kindOk; rw [if_pos (show (hiddenT x).kind = 1 from rfl)]
  have h2 : bitOk (hiddenT x).sender = true := bitOk_iff.2 h
  have h3 : hasMsg (hiddenT x) = hiddenT x := by unfold hasMsg; rw [if_pos (show (hiddenT x).kind = 1 from rfl)]; rfl
  rw [h1, h2, h3]; simp
theorem reveal_right {game : List Int} {s b : Int} {nn : List Int} : rightOk (2, game, s, zero32, b, nn, entry0, ()) = (bitOk b && bitOk s) := by
  unfold rightOk
  have h1 : kindOk (2, game, s, zero32, b, nn, entry0, ()) = bitOk b := by unfold kindOk; rw [if_neg (show ¬ (2 : Int) = 1 by decide), if_pos rfl]
  have h3 : hasMsg (2, game, s, zero32, b, nn, entry0, ()) = (2, game, s, zero32, b, nn, entry0, ()) := by unfold hasMsg; rw [if_neg (show ¬ (2 : Int) = 1 by decide), if_pos rfl]
  rw [h1, h3]; simp
theorem take_hidden {A : List ShThing.T} {x o : DrwT} (hg : o.game = x.game) (ho : o.player = 0 ∨ o.player = 1) (hn : ¬ o.player = x.player) (hp : x.phase = 1) :
    oneT23 false A x (hiddenT o) = (0, A, (x.game, x.player, x.bit, x.nonce, x.tag, o.tag, x.toss, x.given, 2, ())) := by
  unfold oneT23
  rw [if_neg (by simp [hidden_right ho, show (hiddenT o).kind = 1 from rfl]), if_neg (by simpa using (show (hiddenT o).game = x.game from hg)), if_neg (show ¬ (hiddenT o).sender = x.player from hn), if_pos (show (hiddenT o).kind = 1 from rfl)]
  unfold committedT
  rw [if_neg (by rw [hp]; decide), if_pos hp]
  rfl
theorem reveal_binds {A : List ShThing.T} (hA : A.length ≤ 1000) {x : DrwT} {Q c : Int} {theirs : List Int} {k : Nat} (hg : x.game.length = 32 ∧ ∀ z ∈ x.game, isByte z) (hth : theirs.length = 32 ∧ ∀ z ∈ theirs, isByte z) (hQ : Q = 0 ∨ Q = 1) (hc : c = 0 ∨ c = 1) (hP : ¬ Q = x.player) (hPb : x.player = 0 ∨ x.player = 1)
    (idx : idxIn (cnTh x.game Q c theirs) A = some k) (ht : x.theirs = numT (k : Int)) (hph : x.phase = 2) (s b : Int) (nn : List Int) (hnn : nn.length = 32 ∧ ∀ z ∈ nn, isByte z) :
    ((oneT23 false A x (2, x.game, s, zero32, b, nn, entry0, ())).1 = 0 ↔ (s = Q ∧ b = c ∧ nn = theirs)) ∧ ((oneT23 false A x (2, x.game, s, zero32, b, nn, entry0, ())).2.2.phase = 3 ↔ (s = Q ∧ b = c ∧ nn = theirs)) := by
  unfold oneT23
  by_cases hr : bitOk b = true ∧ bitOk s = true
  rotate_left
  · rw [if_pos (.inl (by rw [reveal_right]; simpa using hr))]
    have hno : ¬ (s = Q ∧ b = c ∧ nn = theirs) := by
      rintro ⟨rfl, rfl, rfl⟩
      exact hr ⟨bitOk_iff.2 hc, bitOk_iff.2 hQ⟩
    exact ⟨⟨fun h => (by cases h), fun h => absurd h hno⟩, ⟨fun h => (by rw [show (2, A, x).2.2.phase = x.phase from rfl, hph] at h; cases h), fun h => absurd h hno⟩⟩
  have hb := bitOk_iff.1 hr.1
  have hs := bitOk_iff.1 hr.2
  rw [if_neg (by
    rw [reveal_right, hr.1, hr.2]
    rintro (h | h)
    · exact h rfl
    · exact h (.inr (.inl rfl))), if_neg (by simp)]
  by_cases hsp : s = x.player
  · rw [if_pos (show MsgT.sender (2, x.game, s, zero32, b, nn, entry0, ()) = x.player from hsp)]
    have hno : ¬ (s = Q ∧ b = c ∧ nn = theirs) := by
      rintro ⟨rfl, _, _⟩
      exact hP hsp
    exact ⟨⟨fun h => (by cases h), fun h => absurd h hno⟩, ⟨fun h => (by rw [show (10, A, x).2.2.phase = x.phase from rfl, hph] at h; cases h), fun h => absurd h hno⟩⟩
  rw [if_neg (show ¬ MsgT.sender (2, x.game, s, zero32, b, nn, entry0, ()) = x.player from hsp), if_neg (show ¬ (2 : Int) = 1 by decide), if_pos rfl]
  unfold revealedT
  rw [if_neg (by rw [hph]; decide)]
  have hct : coinT false A x.game (MsgT.sender (2, x.game, s, zero32, b, nn, entry0, ())) (MsgT.bit (2, x.game, s, zero32, b, nn, entry0, ())) (MsgT.nonce (2, x.game, s, zero32, b, nn, entry0, ())) = (numT ((askT A (cnTh x.game s b nn)).1 : Int), 0, (askT A (cnTh x.game s b nn)).2) := coinT_tab A hg.1 hnn.1 hs hb
  rw [hct]
  dsimp only
  have hsQ : s = Q := by omega
  subst hsQ
  by_cases he : b = c ∧ nn = theirs
  · obtain ⟨rfl, rfl⟩ := he
    rw [askT_there idx, ht]
    have hf : fitsT (numT (k : Int)) (numT (k : Int)) 0 = 0 := by unfold fitsT; rw [if_neg (by simp), if_pos rfl]
    rw [if_neg (by simp [hf]), if_neg (by rw [hph]; decide)]
    exact ⟨⟨fun _ => ⟨rfl, rfl, rfl⟩, fun _ => rfl⟩, ⟨fun _ => ⟨rfl, rfl, rfl⟩, fun _ => rfl⟩⟩
  · have hno : ¬ (s = s ∧ b = c ∧ nn = theirs) := fun h => he h.2
    have hne : ¬ numT (k : Int) = numT ((askT A (cnTh x.game s b nn)).1 : Int) := by
      intro h
      have i2 := askT_idx A (cnTh x.game s b nn)
      have l2 := askT_len A (cnTh x.game s b nn)
      have b1 := idxIn_lt idx
      have b2 := idxIn_lt i2
      have hk := numT_inj (by omega) (by omega) h
      rw [← hk] at i2
      have := idxIn_eq ((askT_since A (cnTh x.game s b nn)).idx idx) i2
      obtain ⟨_, h1, h2⟩ := cnTh_inj hg hth hnn hQ hs hc hb this
      exact he ⟨h1.symm, h2.symm⟩
    have hf : ¬ fitsT x.theirs (numT ((askT A (cnTh x.game s b nn)).1 : Int)) 0 = 0 := by
      unfold fitsT
      rw [if_neg (by simp), ht, if_neg hne]
      decide
    rw [if_pos hf]
    exact ⟨⟨fun h => (by cases h), fun h => absurd h hno⟩, ⟨fun h => (by rw [show x.phase = 2 from hph] at h; cases h), fun h => absurd h hno⟩⟩

set_option maxHeartbeats 4000000 in
theorem DrawBinds_spec (g : GH) (t : TossT) (okt : ShToss.ok t) (bit : Int) (hbit : -9223372036854775808 ≤ bit ∧ bit ≤ 9223372036854775807) (nn : List Int) (okn : ShTag.ok nn) (from_ : Int) (hfr : -9223372036854775808 ≤ from_ ∧ from_ ≤ 9223372036854775807) {R : Value → Heap → Prop} (H : ∀ g' : GH, Mv [] g g' → R (.bool true) g'.h) :
    HC Try.prog F.law23_DrawBinds #[.agg ⟨ShToss.enc t⟩, .int .i64 bit, .agg (tagA nn), .int .i64 from_] R g.h := by
  refine law23_DrawBinds.calls ?_
  unfold law23_DrawBinds.body
  have hnb := okTagB okn
  have hgb := okTagB okt.1
  have hth := okTagB okt.2.2.2.2.2.1
  have m := Mv.refl [1, 2, 3, 4, 5, 6] g.base
  have fin : ∀ q : GH, Mv [1, 2, 3, 4, 5, 6] g.base q → R (.bool true) q.h := fun q m => H (g.via q fun _ => 0) (m.via (by simp) _)
  refine new_C g.base 3 fun pt q1 m1 bt => ?_
  refine new_C q1 3 fun pn q2 m2 bn => ?_
  replace bt := bt.mv m2 (by simp)
  replace m := m.step (m1.step m2 (L := []) (by simp)) (by simp)
  refine awake23_spec q2 fun q3 m3 => ⟨_, rfl, ?_⟩
  replace m := m.step m3 (by simp)
  replace bt := bt.mv m3 (by simp)
  replace bn := bn.mv m3 (by simp)
  try dsimp only
  rw [if_neg (by simp)]
  have Tt := tossAt okt (blkCells bt)
  simp only [fldK_some]
  refine loadK_cells Tt.player t.player (j := 0) (k := .int .i64) rfl rfl ?_
  by_cases hp0 : t.player < 0
  · rw [if_pos (by simpa using hp0)]; exact fin q3 m
  rw [if_neg (by simpa using hp0)]
  refine loadK_cells Tt.player t.player (j := 0) (k := .int .i64) rfl rfl ?_
  by_cases hp1 : t.player > 1
  · rw [if_pos (by simpa using hp1)]; exact fin q3 m
  rw [if_neg (by simpa using hp1)]
  refine loadK_cells Tt.other t.other (j := 0) (k := .int .i64) rfl rfl ?_
  by_cases ho0 : t.other < 0
  · rw [if_pos (by simpa using ho0)]; exact fin q3 m
  rw [if_neg (by simpa using ho0)]
  refine loadK_cells Tt.other t.other (j := 0) (k := .int .i64) rfl rfl ?_
  by_cases ho1 : t.other > 1
  · rw [if_pos (by simpa using ho1)]; exact fin q3 m
  rw [if_neg (by simpa using ho1)]
  have hP : t.player = 0 ∨ t.player = 1 := by omega
  have hO : t.other = 0 ∨ t.other = 1 := by omega
  have hQ : 1 - t.player = 0 ∨ 1 - t.player = 1 := by omega
  refine makNew_spec q3 1 2 false ⟨none, 0, 0⟩ [] (RdC.nil _ _ 0 _ _) (by simp) (by simp) fun pm q4 m4 xm => ⟨_, rfl, ?_⟩
  replace m := m.step m4 (by simp)
  replace bt := bt.mv m4 (by simp)
  replace bn := bn.mv m4 (by simp)
  have te : ∀ u : List Int, (⟨ShTag.enc u⟩ : Array Value) = tagA u := fun u => by rw [encTag]
  have Tt := tossAt okt (blkCells bt)
  refine loadTagAt (cellsTo Tt.game (by omega)) okt.1 ?_
  refine loadK_cells Tt.player t.player (j := 0) (k := .int .i64) rfl rfl ?_
  refine loadK_cells Tt.own t.own (j := 0) (k := .int .i64) rfl rfl ?_
  refine loadTagAt (cellsTo Tt.nonce (by omega)) okt.2.2.2.2.1 ?_
  rw [te, te]
  have ha := and1 t.own
  generalize IntKind.i64.wrap (BitVec.ofInt (IntKind.bits .i64) t.own &&& BitVec.ofInt (IntKind.bits .i64) 1).toNat = ob at ha ⊢
  have hc1 := coinT_tab [] (p := t.player) (b := ob) (nonce := t.nonce) hgb.1 (okTagB okt.2.2.2.2.1).1 hP ha
  refine drwNew_spec (by decide) xm t.game okt.1 t.player ob (by omega) (by omega) t.nonce okt.2.2.2.2.1 4 (fun _ pa q5 m5 xm va => ⟨(_, _), rfl, ?_⟩) (fun h => absurd (by rw [hc1]) h)
  rw [hc1] at xm va
  have hl1 := askT_len [] (cnTh t.game t.player ob t.nonce)
  generalize (askT [] (cnTh t.game t.player ob t.nonce)).2 = A1 at xm hl1
  generalize numT ((askT [] (cnTh t.game t.player ob t.nonce)).1 : Int) = t1 at va
  replace m := m.step m5 (by simp)
  replace bt := bt.mv m5 (by simp)
  replace bn := bn.mv m5 (by simp)
  have Tt := tossAt okt (blkCells bt)
  refine loadTagAt (cellsTo Tt.game (by omega)) okt.1 ?_
  refine loadK_cells Tt.player t.player (j := 0) (k := .int .i64) rfl rfl ?_
  refine loadK_cells Tt.other t.other (j := 0) (k := .int .i64) rfl rfl ?_
  refine loadTagAt (cellsTo Tt.theirs (by omega)) okt.2.2.2.2.2.1 ?_
  rw [te, te, wrapI64 (n := 1 - t.player) (by omega) (by omega)]
  have hc2 := coinT_tab A1 (p := 1 - t.player) (b := t.other) (nonce := t.theirs) hgb.1 hth.1 hQ hO
  refine drwNew_spec (by decide) xm t.game okt.1 (1 - t.player) t.other (by omega) (by omega) t.theirs okt.2.2.2.2.2.1 5 (fun _ pb q6 m6 xm vb => ⟨(_, _), rfl, ?_⟩) (fun h => absurd (by rw [hc2]) h)
  rw [hc2] at xm vb
  have hl2 := askT_len A1 (cnTh t.game (1 - t.player) t.other t.theirs)
  have idx := askT_idx A1 (cnTh t.game (1 - t.player) t.other t.theirs)
  generalize (askT A1 (cnTh t.game (1 - t.player) t.other t.theirs)).2 = A2 at xm hl2 idx
  generalize (askT A1 (cnTh t.game (1 - t.player) t.other t.theirs)).1 = k2 at vb idx
  replace m := m.step m6 (by simp)
  replace bt := bt.mv m6 (by simp)
  replace bn := bn.mv m6 (by simp)
  replace va := va.mv m6 (by simp)
  try dsimp only at xm vb ⊢
  rw [if_neg (by simp), if_neg (by simp)]
  refine drwSay_spec vb 6 fun s7 q7 m7 o7 => ⟨_, rfl, ?_⟩
  replace m := m.step m7 (by simp)
  replace bt := bt.mv m7 (by simp)
  replace bn := bn.mv m7 (by simp)
  replace va := va.mv m7 (by simp)
  replace xm := xm.mv m7 (by simp) (by simp)
  have hsay : sayT23 (newT23 t.game (1 - t.player) t.other t.theirs (numT (k2 : Int))) = [hiddenT (newT23 t.game (1 - t.player) t.other t.theirs (numT (k2 : Int)))] := rfl
  rw [hsay] at o7
  refine drwTake_spec (by decide) (by decide) (by decide) (by decide) (by decide) va xm s7 _ (o7.slc rfl (by simp)) fun q8 m8 xm va => ⟨_, rfl, ?_⟩
  have htk : takeT23 false A2 (newT23 t.game t.player ob t.nonce t1) [hiddenT (newT23 t.game (1 - t.player) t.other t.theirs (numT (k2 : Int)))] = (0, A2, (t.game, t.player, ob, t.nonce, t1, numT (k2 : Int), 0, false, 2, ())) := by
    rw [takeT23_cons, take_hidden (x := newT23 t.game t.player ob t.nonce t1) (o := newT23 t.game (1 - t.player) t.other t.theirs (numT (k2 : Int))) rfl hQ (by show ¬ 1 - t.player = t.player; omega) rfl, if_pos rfl]
    rfl
  rw [htk] at xm va ⊢
  replace m := m.step m8 (by simp)
  replace bt := bt.mv m8 (by simp)
  replace bn := bn.mv m8 (by simp)
  try dsimp only at xm va ⊢
  rw [if_neg (by simp)]
  refine drwPhase_spec va ⟨_, rfl, ?_⟩
  try dsimp only
  rw [if_neg (by simp)]
  have Tt := tossAt okt (blkCells bt)
  refine loadTagAt (cellsTo Tt.game (by omega)) okt.1 ?_
  refine loadAgg_whole bn (tagA_size hnb.1) ?_
  have tn : tagA nn = ⟨ShTag.enc nn⟩ := by rw [encTag]
  rw [tn]
  refine ⟨_, bldMsg_2 _ okt.1 _ _ _ okn, ?_⟩
  have okm : ShMsg.ok (2, t.game, from_, zero32, bit, nn, entry0, ()) := ⟨okI (show -9223372036854775808 ≤ (2 : Int) ∧ (2 : Int) ≤ 9223372036854775807 by decide), okt.1, hfr, ok0, hbit, okn, okEntry0, trivial⟩
  refine mkMsgs_C q8 6 [(2, t.game, from_, zero32, bit, nn, entry0, ())] rfl (by simp) (by simp) (by simpa using okm) rfl fun s9 q9 m9 o9 => ?_
  replace m := m.step m9 (by simp)
  replace bt := bt.mv m9 (by simp)
  replace bn := bn.mv m9 (by simp)
  replace va := va.mv m9 (by simp)
  replace xm := xm.mv m9 (by simp) (by simp)
  refine drwTake_spec (by decide) (by decide) (by decide) (by decide) (by decide) va xm s9 _ (o9.slc rfl (by simp)) fun q10 m10 xm va => ⟨_, rfl, ?_⟩
  have key := reveal_binds (A := A2) (by simp at hl1; omega) (x := (t.game, t.player, ob, t.nonce, t1, numT (k2 : Int), 0, false, 2, ())) (Q := 1 - t.player) (c := t.other) (theirs := t.theirs) (k := k2) hgb hth hQ hO (by show ¬ 1 - t.player = t.player; omega) hP idx rfl rfl from_ bit nn hnb
  have hone : takeT23 false A2 (t.game, t.player, ob, t.nonce, t1, numT (k2 : Int), 0, false, 2, ()) [(2, t.game, from_, zero32, bit, nn, entry0, ())] = oneT23 false A2 (t.game, t.player, ob, t.nonce, t1, numT (k2 : Int), 0, false, 2, ()) (2, t.game, from_, zero32, bit, nn, entry0, ()) := by
    rw [takeT23_cons]
    generalize oneT23 false A2 (t.game, t.player, ob, t.nonce, t1, numT (k2 : Int), 0, false, 2, ()) (2, t.game, from_, zero32, bit, nn, entry0, ()) = z
    obtain ⟨z1, z2, z3⟩ := z
    by_cases h : z1 = 0
    · rw [if_pos h, takeT23_nil, h]
    · rw [if_neg h]
  rw [hone] at xm va ⊢
  have key' : ((oneT23 false A2 (t.game, t.player, ob, t.nonce, t1, numT (k2 : Int), 0, false, 2, ()) (2, t.game, from_, zero32, bit, nn, entry0, ())).1 = 0 ↔ (from_ = 1 - t.player ∧ bit = t.other ∧ nn = t.theirs)) ∧ ((oneT23 false A2 (t.game, t.player, ob, t.nonce, t1, numT (k2 : Int), 0, false, 2, ()) (2, t.game, from_, zero32, bit, nn, entry0, ())).2.2.phase = 3 ↔ (from_ = 1 - t.player ∧ bit = t.other ∧ nn = t.theirs)) := key
  clear key
  generalize oneT23 false A2 (t.game, t.player, ob, t.nonce, t1, numT (k2 : Int), 0, false, 2, ()) (2, t.game, from_, zero32, bit, nn, entry0, ()) = z at xm va key' ⊢
  replace m := m.step m10 (by simp)
  replace bt := bt.mv m10 (by simp)
  replace bn := bn.mv m10 (by simp)
  have Tt := tossAt okt (blkCells bt)
  try dsimp only
  refine joinW_intro (fun s h' => s = decide (from_ = 1 - t.player ∧ bit = t.other ∧ nn = t.theirs) ∧ h' = q10.h) ?_ ?_
  · intro J hJ
    refine loadK_cells Tt.player t.player (j := 0) (k := .int .i64) rfl rfl ?_
    rw [wrapI64 (n := 1 - t.player) (by omega) (by omega)]
    by_cases h1 : from_ = 1 - t.player
    rotate_left
    · rw [if_neg (by simpa using h1)]
      exact hJ _ _ ⟨by simp [h1], rfl⟩
    rw [if_pos (by simpa using h1)]
    refine loadK_cells Tt.other t.other (j := 0) (k := .int .i64) rfl rfl ?_
    by_cases h2 : bit = t.other
    rotate_left
    · rw [if_neg (by simpa using h2)]
      exact hJ _ _ ⟨by simp [h2], rfl⟩
    rw [if_pos (by simpa using h2)]
    refine loadAgg_whole bn (tagA_size hnb.1) ?_
    refine loadTagAt (cellsTo Tt.theirs (by omega)) okt.2.2.2.2.2.1 ?_
    rw [te]
    refine tag_eq hnb.1 hnb.2 hth.1 hth.2 ?_
    exact hJ _ _ ⟨by simp [h1, h2], rfl⟩
  rintro _ _ ⟨rfl, rfl⟩
  try dsimp only
  have e1 : (z.1 == 0) = decide (from_ = 1 - t.player ∧ bit = t.other ∧ nn = t.theirs) := by
    rw [Bool.eq_iff_iff, beq_iff_eq, decide_eq_true_iff]; exact key'.1
  have e2 : (z.2.2.phase == 3) = decide (from_ = 1 - t.player ∧ bit = t.other ∧ nn = t.theirs) := by
    rw [Bool.eq_iff_iff, beq_iff_eq, decide_eq_true_iff]; exact key'.2
  rw [e1, if_pos (by simp)]
  refine drwPhase_spec va ⟨_, rfl, ?_⟩
  try dsimp only
  rw [e2]
  rw [show (decide (from_ = 1 - t.player ∧ bit = t.other ∧ nn = t.theirs) == decide (from_ = 1 - t.player ∧ bit = t.other ∧ nn = t.theirs)) = true from by simp]
  exact fin q10 m

theorem DrawBinds_walk {h : Heap} (ct : Array Value) (t : TossT) (w1 : Lay h ShToss t ct.toList) (bit : Int) (hb : (Lit.int IntKind.i64 bit).wf = true) (cn : Array Value) (nn : List Int) (w2 : Lay h ShTag nn cn.toList) (from_ : Int) (hf : (Lit.int IntKind.i64 from_).wf = true) :
    HC Try.prog F.law23_DrawBinds #[.agg ct, .int .i64 bit, .agg cn, .int .i64 from_] (fun v h' => v = .bool true ∧ Ext h h') h := by
  obtain ⟨ct⟩ := ct
  obtain ⟨cn⟩ := cn
  obtain ⟨rfl, ok1⟩ := LayC.enc (s := ShToss) rfl (w1.arg (Mv.refl [] ⟨h, fun _ => 0⟩) (by simp))
  obtain ⟨rfl, ok2⟩ := LayC.enc (s := ShTag) rfl (w2.arg (Mv.refl [] ⟨h, fun _ => 0⟩) (by simp))
  have te : ∀ u : List Int, (⟨ShTag.enc u⟩ : Array Value) = tagA u := fun u => by rw [encTag]
  rw [te]
  exact DrawBinds_spec ⟨h, fun _ => 0⟩ t ok1 bit (by simp only [Lit.wf, Bool.and_eq_true, decide_eq_true_eq] at hb; exact hb) nn ok2 from_ (by simp only [Lit.wf, Bool.and_eq_true, decide_eq_true_eq] at hf; exact hf) fun g' m => ⟨rfl, m.ext (by simp)⟩

end Go.Proofs.Ytgllngcoclnpeaa
