/-
  The statement DrawTakes.
-/
import Derived.Test.YtgllngcoclnpeaaGreatKLaw23
import Derived.Test.YtgllngcoclnpeaaGreatKTells22
import Derived.Test.YtgllngcoclnpeaaGreatKRef18
import Derived.Test.YtgllngcoclnpeaaGreatKFlat
set_option linter.unusedSimpArgs false
set_option linter.unusedVariables false
namespace Go.Proofs.YtgllngcoclnpeaaGreat
open Go Go.Ev

/-! ### The document's draw -/
def rdwSegs (pv : Value) (x : DrwT) : List (List Value) := [[pv], ShTag.enc x.game, [.int .i64 x.player], [.int .i64 x.bit], ShTag.enc x.nonce, [.int .i64 x.phase], ShTag.enc x.tag, ShTag.enc x.theirs, [.int .i64 x.toss], [.bool x.given]]
def rdwA (pv : Value) (x : DrwT) : Array Value := ⟨(rdwSegs pv x).flatten⟩
structure RdwC (g : GH) (c p pm : Nat) (x : DrwT) : Prop where
  blk : BlkC g c p (rdwA (.pointer (some ⟨pm, 0, none⟩)) x) T.zugzwangref23_Draw
  ok : ShDrw.ok x
  ph : 1 ≤ x.phase ∧ x.phase ≤ 4
theorem RdwC.mv {K : List Nat} {g g' : GH} {c p pm : Nat} {x : DrwT} (e : RdwC g c p pm x) (m : Mv K g g') (h : c ∉ K) : RdwC g' c p pm x := ⟨e.blk.mv m h, e.ok, e.ph⟩
theorem RdwC.re {K : List Nat} {g q : GH} {c p pm : Nat} {x : DrwT} (e : RdwC q c p pm x) (m : Mv K g q) {φ : Nat → Nat} (h : φ c = c ∨ Fresh g c) : RdwC (g.via q φ) (φ c) p pm x := ⟨e.blk.re m h, e.ok, e.ph⟩
structure RdwAt (g : GH) (c p pm : Nat) (x : DrwT) : Prop where
  maker : CellsC g c p 0 [.pointer (some ⟨pm, 0, none⟩)]
  game : CellsC g c p 1 (ShTag.enc x.game)
  player : CellsC g c p 33 [.int .i64 x.player]
  bit : CellsC g c p 34 [.int .i64 x.bit]
  nonce : CellsC g c p 35 (ShTag.enc x.nonce)
  phase : CellsC g c p 67 [.int .i64 x.phase]
  tag : CellsC g c p 68 (ShTag.enc x.tag)
  theirs : CellsC g c p 100 (ShTag.enc x.theirs)
  toss : CellsC g c p 132 [.int .i64 x.toss]
  given : CellsC g c p 133 [.bool x.given]
theorem RdwC.parts {g : GH} {c p pm : Nat} {x : DrwT} (e : RdwC g c p pm x) : RdwAt g c p pm x := by
  have h0 : CellsC g c p 0 ([.pointer (some ⟨pm, 0, none⟩)] ++ (ShTag.enc x.game ++ ([.int .i64 x.player] ++ ([.int .i64 x.bit] ++ (ShTag.enc x.nonce ++ ([.int .i64 x.phase] ++ (ShTag.enc x.tag ++ (ShTag.enc x.theirs ++ ([.int .i64 x.toss] ++ ([.bool x.given] ++ [])))))))))) := blkCells e.blk
  have h1 := cellsSnd (n := 1) h0 rfl
  have h2 := cellsSnd (n := 32) h1 (lenTag e.ok.1)
  have h3 := cellsSnd (n := 1) h2 rfl
  have h4 := cellsSnd (n := 1) h3 rfl
  have h5 := cellsSnd (n := 32) h4 (lenTag e.ok.2.2.2.1)
  have h6 := cellsSnd (n := 1) h5 rfl
  have h7 := cellsSnd (n := 32) h6 (lenTag e.ok.2.2.2.2.1)
  have h8 := cellsSnd (n := 32) h7 (lenTag e.ok.2.2.2.2.2.1)
  have h9 := cellsSnd (n := 1) h8 rfl
  exact ⟨cellsFst h0, cellsTo (cellsFst h1) (by omega), cellsTo (cellsFst h2) (by omega), cellsTo (cellsFst h3) (by omega), cellsTo (cellsFst h4) (by omega), cellsTo (cellsFst h5) (by omega), cellsTo (cellsFst h6) (by omega), cellsTo (cellsFst h7) (by omega), cellsTo (cellsFst h8) (by omega), cellsTo (cellsFst h9) (by omega)⟩
theorem rdwLen (pv : Value) {x : DrwT} (ok : ShDrw.ok x) : (rdwA pv x).size = 134 := by simp [rdwA, rdwSegs, lenTag ok.1, lenTag ok.2.2.2.1, lenTag ok.2.2.2.2.1, lenTag ok.2.2.2.2.2.1]
theorem rdwSetPhase (pv : Value) (x : DrwT) (ok : ShDrw.ok x) (n : Int) : (rdwA pv x).setIfInBounds 67 (.int .i64 n) = rdwA pv (withPhase x n) := by
  rw [← overA_single (by rw [rdwLen pv ok]; decide)]
  have := seg_over (rdwSegs pv x) 5 [.int .i64 x.phase] [.int .i64 n] rfl rfl
  rw [show ((rdwSegs pv x).take 5).flatten.length = 67 from by simp [rdwSegs, lenTag ok.1, lenTag ok.2.2.2.1]] at this
  exact this
theorem rdwSetTheirs (pv : Value) (x : DrwT) (ok : ShDrw.ok x) (t : List Int) (ht : ShTag.ok t) : overA (rdwA pv x) 100 (ShTag.enc t) = rdwA pv (x.game, x.player, x.bit, x.nonce, x.tag, t, x.toss, x.given, x.phase, ()) := by
  have := seg_over (rdwSegs pv x) 7 (ShTag.enc x.theirs) (ShTag.enc t) rfl (by rw [lenTag ht, lenTag ok.2.2.2.2.2.1])
  rw [show ((rdwSegs pv x).take 7).flatten.length = 100 from by simp [rdwSegs, lenTag ok.1, lenTag ok.2.2.2.1, lenTag ok.2.2.2.2.1]] at this
  exact this
theorem rdwSetToss (pv : Value) (x : DrwT) (ok : ShDrw.ok x) (n : Int) : (rdwA pv x).setIfInBounds 132 (.int .i64 n) = rdwA pv (x.game, x.player, x.bit, x.nonce, x.tag, x.theirs, n, x.given, x.phase, ()) := by
  rw [← overA_single (by rw [rdwLen pv ok]; decide)]
  have := seg_over (rdwSegs pv x) 8 [.int .i64 x.toss] [.int .i64 n] rfl rfl
  rw [show ((rdwSegs pv x).take 8).flatten.length = 132 from by simp [rdwSegs, lenTag ok.1, lenTag ok.2.2.2.1, lenTag ok.2.2.2.2.1, lenTag ok.2.2.2.2.2.1]] at this
  exact this
theorem rdwSetGiven (pv : Value) (x : DrwT) (ok : ShDrw.ok x) (b : Bool) : (rdwA pv x).setIfInBounds 133 (.bool b) = rdwA pv (x.game, x.player, x.bit, x.nonce, x.tag, x.theirs, x.toss, b, x.phase, ()) := by
  rw [← overA_single (by rw [rdwLen pv ok]; decide)]
  have := seg_over (rdwSegs pv x) 9 [.bool x.given] [.bool b] rfl rfl
  rw [show ((rdwSegs pv x).take 9).flatten.length = 133 from by simp [rdwSegs, lenTag ok.1, lenTag ok.2.2.2.1, lenTag ok.2.2.2.2.1, lenTag ok.2.2.2.2.2.1]] at this
  exact this
theorem okWith {x : DrwT} (ok : ShDrw.ok x) {t : List Int} (ht : ShTag.ok t) {n : Int} (hn : -9223372036854775808 ≤ n ∧ n ≤ 9223372036854775807) (b : Bool) {k : Int} (hk : 1 ≤ k ∧ k ≤ 4) : ShDrw.ok (x.game, x.player, x.bit, x.nonce, x.tag, t, n, b, k, ()) := ⟨ok.1, ok.2.1, ok.2.2.1, ok.2.2.2.1, ok.2.2.2.2.1, ht, hn, trivial, drwI64 hk, trivial⟩

/-- What holds of a draw that was made. -/
def Inv23 (x : DrwT) : Prop := (x.given = true → x.phase = 4) ∧ (x.bit = 0 ∨ x.bit = 1) ∧ (x.toss = 0 ∨ x.toss = 1)
theorem rightOk_more {w : MsgT} (hr : rightOk w = true) : (w.kind = 1 ∨ w.kind = 2 ∨ w.kind = 3 ∨ w.kind = 4) ∧ (w.kind = 2 → w.bit = 0 ∨ w.bit = 1) := by
  unfold rightOk at hr
  simp only [Bool.and_eq_true] at hr
  obtain ⟨h1, h2, _⟩ := hr
  unfold kindOk at h1
  by_cases k1 : w.kind = 1
  · exact ⟨.inl k1, fun h => by rw [k1] at h; cases h⟩
  rw [if_neg k1] at h1
  by_cases k2 : w.kind = 2
  · rw [if_pos k2] at h1
    unfold bitOk at h1
    exact ⟨.inr (.inl k2), fun _ => by simpa using h1⟩
  rw [if_neg k2] at h1
  by_cases k3 : w.kind = 3
  · exact ⟨.inr (.inr (.inl k3)), fun h => absurd h k2⟩
  rw [if_neg k3] at h1
  exact ⟨.inr (.inr (.inr (by simpa using h1))), fun h => absurd h k2⟩
theorem inv_one {real : Bool} {A : List ShThing.T} {x : DrwT} (h : Inv23 x) (w : MsgT) : Inv23 (oneT23 real A x w).2.2 := by
  obtain ⟨h1, h2, h3⟩ := h
  unfold oneT23
  by_cases c1 : ¬ rightOk w = true ∨ ¬ (w.kind = 1 ∨ w.kind = 2 ∨ w.kind = 4)
  · rw [if_pos c1]; exact ⟨h1, h2, h3⟩
  rw [if_neg c1]
  by_cases c2 : ¬ w.game = x.game
  · rw [if_pos c2]; exact ⟨h1, h2, h3⟩
  rw [if_neg c2]
  by_cases c3 : w.sender = x.player
  · rw [if_pos c3]; exact ⟨h1, h2, h3⟩
  rw [if_neg c3]
  by_cases c4 : w.kind = 1
  · rw [if_pos c4]
    unfold committedT
    by_cases d1 : x.phase = 4
    · simp only [if_pos d1]; exact ⟨h1, h2, h3⟩
    simp only [if_neg d1]
    by_cases d2 : x.phase = 1
    · simp only [if_pos d2]; exact ⟨fun k => absurd (h1 k) d1, h2, h3⟩
    simp only [if_neg d2]
    split <;> exact ⟨h1, h2, h3⟩
  rw [if_neg c4]
  by_cases c5 : w.kind = 2
  · rw [if_pos c5]
    unfold revealedT
    by_cases d1 : x.phase = 4 ∨ x.phase = 1
    · simp only [if_pos d1]; exact ⟨h1, h2, h3⟩
    simp only [if_neg d1]
    split
    · exact ⟨h1, h2, h3⟩
    split
    · exact ⟨h1, h2, h3⟩
    · have hr : rightOk w = true := by
        rcases Classical.em (rightOk w = true) with h | h
        · exact h
        · exact absurd (.inl h) c1
      exact ⟨fun k => absurd (.inl (h1 k)) d1, h2, (rightOk_more hr).2 c5⟩
  rw [if_neg c5]
  unfold leftT
  split
  · exact ⟨h1, h2, h3⟩
  split
  · exact ⟨h1, h2, h3⟩
  · exact ⟨fun _ => rfl, h2, h3⟩
theorem inv_take23 {real : Bool} : ∀ (l : List MsgT) (A : List ShThing.T) (x : DrwT), Inv23 x → Inv23 (takeT23 real A x l).2.2
  | [], A, x, h => h
  | w :: l, A, x, h => by
    rw [takeT23_cons]
    by_cases h0 : (oneT23 real A x w).1 = 0
    · rw [if_pos h0]; exact inv_take23 l _ _ (inv_one h w)
    · rw [if_neg h0]; exact inv_one h w
theorem inv_abort {x : DrwT} (h : Inv23 x) : Inv23 (abortOne x).2 := by
  unfold abortOne
  split
  · exact h
  · exact ⟨fun _ => rfl, h.2.1, h.2.2⟩
theorem coinT_real (A : List ShThing.T) (game : List Int) (p b : Int) (nonce : List Int) : (coinT true A game p b nonce).1 = (coinT true [] game p b nonce).1 ∧ (coinT true A game p b nonce).2.1 = (coinT true [] game p b nonce).2.1 ∧ (coinT true A game p b nonce).2.2 = A := by
  unfold coinT someT coverT sum2
  split
  · split <;> exact ⟨rfl, rfl, rfl⟩
  · exact ⟨rfl, rfl, rfl⟩
theorem one_real (A : List ShThing.T) (x : DrwT) (w : MsgT) : (oneT23 true A x w).2.1 = A ∧ (oneT23 true A x w).1 = (oneT23 true [] x w).1 ∧ (oneT23 true A x w).2.2 = (oneT23 true [] x w).2.2 := by
  obtain ⟨a, b, c⟩ := coinT_real A x.game w.sender w.bit w.nonce
  obtain ⟨a', b', c'⟩ := coinT_real [] x.game w.sender w.bit w.nonce
  unfold oneT23 revealedT
  rw [a, b, c]
  split; · exact ⟨rfl, rfl, rfl⟩
  split; · exact ⟨rfl, rfl, rfl⟩
  split; · exact ⟨rfl, rfl, rfl⟩
  split; · exact ⟨rfl, rfl, rfl⟩
  split
  · split; · exact ⟨rfl, rfl, rfl⟩
    split; · exact ⟨rfl, rfl, rfl⟩
    split <;> exact ⟨rfl, rfl, rfl⟩
  · exact ⟨rfl, rfl, rfl⟩
theorem take_real23 (A : List ShThing.T) : ∀ (l : List MsgT) (x : DrwT), (takeT23 true A x l).2.1 = A ∧ (takeT23 true A x l).1 = (takeT23 true [] x l).1 ∧ (takeT23 true A x l).2.2 = (takeT23 true [] x l).2.2
  | [], x => ⟨rfl, rfl, rfl⟩
  | w :: l, x => by
    obtain ⟨a, b, c⟩ := one_real A x w
    obtain ⟨a', b', c'⟩ := one_real [] x w
    rw [takeT23_cons, takeT23_cons, b]
    by_cases h : (oneT23 true [] x w).1 = 0
    · rw [if_pos h, if_pos h, a, c, a']; exact take_real23 A l _
    · rw [if_neg h, if_neg h]; exact ⟨a, b, c⟩

/-! ### What the document's draw does -/
section
variable {g : GH} {c p pm : Nat} {x : DrwT}
theorem rAbort_spec (e : RdwC g c p pm x) {R : Value → Heap → Prop} (H : ∀ g' : GH, Mv [c] g g' → RdwC g' c p pm (abortOne x).2 → R (.int .i64 (abortOne x).1) g'.h) : HC Tryz.prog F.ref23_Draw_Abort #[.pointer (some ⟨p, 0, none⟩)] R g.h := by
  refine ref23_Draw_Abort.calls ?_
  unfold ref23_Draw_Abort.body
  have P := e.parts
  unfold abortOne at H
  simp only [derefK_some, fldK_some]
  refine loadK_cells P.phase x.phase (j := 0) (k := .int .i64) rfl rfl ?_
  by_cases h3 : x.phase = 3
  · rw [if_pos (by simpa using h3)]
    rw [if_pos (.inl h3)] at H
    exact H g (Mv.refl _ _) e
  rw [if_neg (by simpa using h3)]
  refine loadK_cells P.phase x.phase (j := 0) (k := .int .i64) rfl rfl ?_
  by_cases h4 : x.phase = 4
  · rw [if_pos (by simpa using h4)]
    rw [if_pos (.inr h4)] at H
    exact H g (Mv.refl _ _) e
  rw [if_neg (by simpa using h4)]
  rw [if_neg (by simp [h3, h4])] at H
  refine store_C e.blk (by rw [rdwLen _ e.ok]; decide) rfl fun q2 m2 b2 => ?_
  rw [rdwSetPhase _ _ e.ok] at b2
  exact H q2 m2 ⟨b2, okPhase e.ok (by decide), (show (1 : Int) ≤ 4 ∧ (4 : Int) ≤ 4 by decide)⟩
theorem rGive_spec (e : RdwC g c p pm x) {R : Value → Heap → Prop} (H : ∀ g' : GH, Mv [c] g g' → RdwC g' c p pm (leftT x).2 → R (.int .i64 (leftT x).1) g'.h) : HC Tryz.prog F.ref23_Draw_give #[.pointer (some ⟨p, 0, none⟩)] R g.h := by
  refine ref23_Draw_give.calls ?_
  unfold ref23_Draw_give.body
  have P := e.parts
  unfold leftT at H
  refine joinW_intro (fun _ h' => h' = g.h ∧ ¬ (x.phase = 4 ∧ x.given = true)) ?_ ?_
  · intro J hJ
    simp only [derefK_some, fldK_some]
    refine loadK_cells P.phase x.phase (j := 0) (k := .int .i64) rfl rfl ?_
    by_cases h4 : x.phase = 4
    · rw [if_pos (by simpa using h4)]
      refine loadK_cells P.given x.given (j := 0) (k := .bool) rfl rfl ?_
      by_cases hg : x.given = true
      · rw [if_pos hg]
        rw [if_pos ⟨h4, hg⟩] at H
        exact H g (Mv.refl _ _) e
      · rw [if_neg hg]
        exact hJ _ _ ⟨rfl, fun h => hg h.2⟩
    · rw [if_neg (by simpa using h4)]
      exact hJ _ _ ⟨rfl, fun h => h4 h.1⟩
  rintro _ _ ⟨rfl, hn⟩
  rw [if_neg hn] at H
  simp only [derefK_some, fldK_some]
  refine loadK_cells P.phase x.phase (j := 0) (k := .int .i64) rfl rfl ?_
  by_cases h4 : x.phase = 4
  · rw [if_pos (by simpa using h4)]
    rw [if_pos (.inl h4)] at H
    exact H g (Mv.refl _ _) e
  rw [if_neg (by simpa using h4)]
  refine loadK_cells P.phase x.phase (j := 0) (k := .int .i64) rfl rfl ?_
  by_cases h3 : x.phase = 3
  · rw [if_pos (by simpa using h3)]
    rw [if_pos (.inr h3)] at H
    exact H g (Mv.refl _ _) e
  rw [if_neg (by simpa using h3)]
  rw [if_neg (by simp [h3, h4])] at H
  refine store_C e.blk (by rw [rdwLen _ e.ok]; decide) rfl fun q2 m2 b2 => ?_
  rw [rdwSetPhase _ _ e.ok] at b2
  have ok2 := okPhase e.ok (n := 4) (by decide)
  refine store_C b2 (by rw [rdwLen _ ok2]; decide) rfl fun q3 m3 b3 => ?_
  have b3' := (rdwSetGiven (.pointer (some ⟨pm, 0, none⟩)) _ ok2 true) ▸ b3
  exact H q3 (m2.step m3 (by simp)) ⟨b3', okWith e.ok e.ok.2.2.2.2.2.1 e.ok.2.2.2.2.2.2.1 true (k := 4) (by decide), (show (1 : Int) ≤ 4 ∧ (4 : Int) ≤ 4 by decide)⟩
theorem rCommit_spec (e : RdwC g c p pm x) (t : List Int) (okt : ShTag.ok t) {R : Value → Heap → Prop} (H : ∀ g' : GH, Mv [c] g g' → RdwC g' c p pm (committedT x t).2 → R (.int .i64 (committedT x t).1) g'.h) : HC Tryz.prog F.ref23_Draw_commit #[.pointer (some ⟨p, 0, none⟩), .agg ⟨ShTag.enc t⟩] R g.h := by
  refine ref23_Draw_commit.calls ?_
  unfold ref23_Draw_commit.body
  have lt : (⟨ShTag.enc t⟩ : Array Value).size = 32 := by simpa using lenTag okt
  refine new_C g (c + 1) fun pt q1 m1 bt => ?_
  have e1 := e.mv m1 (by simp)
  have P := e1.parts
  have M : Mv [c] g q1 := m1.mono (by simp)
  unfold committedT at H
  simp only [derefK_some, fldK_some]
  refine loadK_cells P.phase x.phase (j := 0) (k := .int .i64) rfl rfl ?_
  by_cases h4 : x.phase = 4
  · rw [if_pos (by simpa using h4)]
    rw [if_pos h4] at H
    exact H q1 M e1
  rw [if_neg (by simpa using h4)]
  rw [if_neg h4] at H
  refine loadK_cells P.phase x.phase (j := 0) (k := .int .i64) rfl rfl ?_
  by_cases h1 : x.phase = 1
  · rw [if_pos (by simpa using h1)]
    rw [if_pos h1] at H
    refine store_C e1.blk (by rw [rdwLen _ e.ok]; decide) rfl fun q2 m2 b2 => ?_
    rw [rdwSetPhase _ _ e.ok] at b2
    refine loadAgg_whole (bt.mv m2 (by simp)) (by rw [szTag, lt]) ?_
    have ok2 := okPhase e.ok (n := 2) (by decide)
    refine storeAgg_C b2 (by rw [szTag]; exact lt) (by rw [rdwLen _ ok2, szTag]; decide) (fun v hv => Sh.enc_one (s := ShTag) rfl v hv) fun q3 m3 b3 => ?_
    have b3' := (rdwSetTheirs (.pointer (some ⟨pm, 0, none⟩)) _ ok2 t okt) ▸ b3
    exact H q3 ((M.step m2 (by simp)).step m3 (by simp)) ⟨b3', okWith e.ok okt e.ok.2.2.2.2.2.2.1 x.given (k := 2) (by decide), (show (1 : Int) ≤ 2 ∧ (2 : Int) ≤ 4 by decide)⟩
  rw [if_neg (by simpa using h1)]
  rw [if_neg h1] at H
  refine loadTagAt (cellsTo P.theirs (by omega)) e.ok.2.2.2.2.2.1 ?_
  refine loadAgg_whole bt (by rw [szTag, lt]) ?_
  refine eqTag_F e.ok.2.2.2.2.2.1 okt ?_
  by_cases ht : x.theirs = t
  · rw [if_pos (by simpa using ht)]
    rw [if_pos ht] at H
    exact H q1 M e1
  · rw [if_neg (by simpa using ht)]
    rw [if_neg ht] at H
    exact H q1 M e1
set_option maxHeartbeats 1000000 in
theorem rReveal_spec {cm : Nat} (hcm : ¬ c = cm) (e : RdwC g c p pm x) (xm : Mk22 g cm pm) (y : MsgT) (ok : ShMsg.ok y) {R : Value → Heap → Prop} (H : ∀ g' : GH, Mv [c] g g' → RdwC g' c p pm (revealedT true [] x y).2.2 → R (.int .i64 (revealedT true [] x y).1) g'.h) :
    HC Tryz.prog F.ref23_Draw_reveal #[.pointer (some ⟨p, 0, none⟩), .agg ⟨ShMsg.enc y⟩] R g.h := by
  refine ref23_Draw_reveal.calls ?_
  unfold ref23_Draw_reveal.body
  obtain ⟨z, hz, hzn⟩ := fresh_exists g [c, cm]
  obtain ⟨z2, hz2, hzn2⟩ := fresh_exists g [c, cm, z]
  simp only [List.mem_cons, List.mem_nil_iff, or_false, not_or] at hzn hzn2
  have m := Mv.refl [c, z, z2] g
  have hre : ∀ j ∈ [c, z, z2], j ∈ [c] ∨ Fresh g j := by
    intro j hj
    simp only [List.mem_cons, List.mem_nil_iff, or_false] at hj
    rcases hj with rfl | rfl | rfl
    · exact .inl (by simp)
    · exact .inr hz
    · exact .inr hz2
  refine new_C g z fun py q1 m1 by_ => ?_
  replace m := m.step m1 (by simp)
  have e1 := e.mv m1 (by simp)
  have xm1 := xm.mv m1 (by simp)
  have P := e1.parts
  have Y := msgAt ok (blkCells by_)
  unfold revealedT at H
  simp only [derefK_some, fldK_some]
  refine loadK_cells P.phase x.phase (j := 0) (k := .int .i64) rfl rfl ?_
  by_cases h4 : x.phase = 4
  · rw [if_pos (by simpa using h4)]
    rw [if_pos (.inl h4)] at H
    exact H (g.via q1 id) (m.re id hre) (e1.re (φ := id) m (.inl rfl))
  rw [if_neg (by simpa using h4)]
  refine loadK_cells P.phase x.phase (j := 0) (k := .int .i64) rfl rfl ?_
  by_cases h1 : x.phase = 1
  · rw [if_pos (by simpa using h1)]
    rw [if_pos (.inr h1)] at H
    exact H (g.via q1 id) (m.re id hre) (e1.re (φ := id) m (.inl rfl))
  rw [if_neg (by simpa using h1)]
  rw [if_neg (by simp [h1, h4])] at H
  have te : ∀ u : List Int, (⟨ShTag.enc u⟩ : Array Value) = tagA u := fun u => by rw [encTag]
  have okt := coinT_tag true [] x.game y.sender y.bit y.nonce
  refine joinW_intro (fun s h' => ∃ (q : GH) (pt : Nat), s = (some ⟨pt, 0, none⟩, (coinT true [] x.game y.sender y.bit y.nonce).2.1) ∧ h' = q.h ∧ Mv [z2] q1 q ∧ BlkC q z2 pt (tagA (coinT true [] x.game y.sender y.bit y.nonce).1) T.api_Tag) ?_ ?_
  · intro J hJ
    refine loadK_cells P.maker (some ⟨pm, 0, none⟩ : Option Addr) (j := 0) (k := .ptr) rfl rfl ?_
    refine loadTagAt (cellsTo P.game (by omega)) e.ok.1 ?_
    refine loadK_cells Y.sender y.sender (j := 0) (k := .int .i64) rfl rfl ?_
    refine loadK_cells Y.bit y.bit (j := 0) (k := .int .i64) rfl rfl ?_
    refine loadTagAt (cellsTo Y.nonce (by omega)) ok.2.2.2.2.2.1 ?_
    rw [te, te]
    refine ⟨?_, ?_⟩
    · refine ref22Coin_spec xm1 x.game e.ok.1 y.sender y.bit y.nonce ok.2.2.2.2.2.1 [] fun q3 m3 => ⟨(_, _), rfl, ?_⟩
      rw [zTag]
      refine newStore_C q3 z2 (by rw [szTag]; simp [(okTagB okt).1]) (by rw [szTag]; simp) (fun v hv => oneBy _ v hv) fun pt q4 m4 bt => ?_
      exact hJ _ _ ⟨q4, pt, rfl, rfl, m3.then m4 (by simp), bt⟩
    · rw [zTag]
      refine new_C q1 z2 fun pt q3 m3 bt => ?_
      refine ref22Coin_spec (xm1.mv m3 (by simp)) x.game e.ok.1 y.sender y.bit y.nonce ok.2.2.2.2.2.1 [] fun q4 m4 => ⟨(_, _), rfl, ?_⟩
      refine storeAgg_C (bt.mv m4 (by simp)) (by rw [szTag]; simp [(okTagB okt).1]) (by rw [szTag]; simp) (fun v hv => oneBy _ v hv) fun q5 m5 b5 => ?_
      rw [overA_all (by simp [(okTagB okt).1])] at b5
      exact hJ _ _ ⟨q5, pt, rfl, rfl, (m3.step m4 (L := []) (by simp)).then m5 (by simp), b5⟩
  rintro _ _ ⟨q3, pt, rfl, rfl, m3, bt⟩
  replace m := m.step m3 (by simp)
  have e3 := e1.mv m3 (by simp [Ne.symm hzn2.1])
  have by3 := by_.mv m3 (by simp [Ne.symm hzn2.2.2])
  have P := e3.parts
  have Y := msgAt ok (blkCells by3)
  try dsimp only
  generalize coinT true [] x.game y.sender y.bit y.nonce = ct at okt bt H ⊢
  refine joinW_intro (fun s h' => s = decide (¬ fitsT x.theirs ct.1 ct.2.1 = 0) ∧ h' = q3.h) ?_ ?_
  · intro J hJ
    unfold fitsT at hJ
    by_cases h0 : ct.2.1 = 0
    rotate_left
    · rw [if_pos (by simpa using h0)]
      exact hJ _ _ ⟨by simp [h0], rfl⟩
    rw [if_neg (by simpa using h0)]
    refine loadAgg_whole bt (tagA_size (okTagB okt).1) ?_
    refine loadTagAt (cellsTo P.theirs (by omega)) e.ok.2.2.2.2.2.1 ?_
    rw [te]
    refine tag_neq (okTagB okt).1 (okTagB okt).2 (okTagB e.ok.2.2.2.2.2.1).1 (okTagB e.ok.2.2.2.2.2.1).2 ?_
    refine hJ _ _ ⟨?_, rfl⟩
    by_cases hh : x.theirs = ct.1
    · simp [h0, hh]
    · simp [h0, hh, Ne.symm hh]
  rintro _ _ ⟨rfl, rfl⟩
  try dsimp only
  by_cases h16 : fitsT x.theirs ct.1 ct.2.1 = 0
  rotate_left
  · rw [if_pos (by simpa using h16)]
    rw [if_pos h16] at H
    exact H (g.via q3 id) (m.re id hre) (e3.re (φ := id) m (.inl rfl))
  rw [if_neg (by simpa using h16)]
  rw [if_neg (by simpa using h16)] at H
  refine loadK_cells P.phase x.phase (j := 0) (k := .int .i64) rfl rfl ?_
  by_cases h3 : x.phase = 3
  · rw [if_pos (by simpa using h3)]
    rw [if_pos h3] at H
    exact H (g.via q3 id) (m.re id hre) (e3.re (φ := id) m (.inl rfl))
  rw [if_neg (by simpa using h3)]
  rw [if_neg h3] at H
  refine store_C e3.blk (by rw [rdwLen _ e.ok]; decide) rfl fun q4 m4 b4 => ?_
  rw [rdwSetPhase _ _ e.ok] at b4
  replace m := m.step m4 (by simp)
  have Y := msgAt ok (blkCells (by3.mv m4 (by simp [hzn.1])))
  refine loadK_cells Y.bit y.bit (j := 0) (k := .int .i64) rfl rfl ?_
  have ok2 := okPhase e.ok (n := 3) (by decide)
  refine store_C b4 (by rw [rdwLen _ ok2]; decide) rfl fun q5 m5 b5 => ?_
  replace m := m.step m5 (by simp)
  have b5' := (rdwSetToss (.pointer (some ⟨pm, 0, none⟩)) _ ok2 y.bit) ▸ b5
  exact H (g.via q5 id) (m.re id hre) (RdwC.re (φ := id) ⟨b5', okWith e.ok e.ok.2.2.2.2.2.1 ok.2.2.2.2.1 x.given (k := 3) (by decide), (show (1 : Int) ≤ 3 ∧ (3 : Int) ≤ 4 by decide)⟩ m (.inl rfl))
theorem xor_bits {a b : Int} (ha : a = 0 ∨ a = 1) (hb : b = 0 ∨ b = 1) : xorT a b = if a = b then 0 else 1 := by
  rcases ha with rfl | rfl <;> rcases hb with rfl | rfl <;> decide
theorem rWhite_spec (e : RdwC g c p pm x) (inv : Inv23 x) {R : Value → Heap → Prop} (H : R (.tuple #[.int .i64 (whiteT x).1, .bool (whiteT x).2]) g.h) : HC Tryz.prog F.ref23_Draw_White #[.pointer (some ⟨p, 0, none⟩)] R g.h := by
  refine ref23_Draw_White.calls ?_
  unfold ref23_Draw_White.body
  have P := e.parts
  unfold whiteT at H
  simp only [derefK_some, fldK_some]
  refine loadK_cells P.phase x.phase (j := 0) (k := .int .i64) rfl rfl ?_
  by_cases h : x.phase = 3
  · rw [if_neg (by simpa using h)]
    rw [if_neg (by simpa using h)] at H
    refine loadK_cells P.bit x.bit (j := 0) (k := .int .i64) rfl rfl ?_
    refine loadK_cells P.toss x.toss (j := 0) (k := .int .i64) rfl rfl ?_
    have hx := xor_bits inv.2.1 inv.2.2
    rw [show (xorT x.bit x.toss, true).1 = xorT x.bit x.toss from rfl, hx] at H
    by_cases hb : x.bit = x.toss
    · rw [if_pos (by simpa using hb)]
      rw [if_pos hb] at H
      exact H
    · rw [if_neg (by simpa using hb)]
      rw [if_neg hb] at H
      exact H
  · rw [if_pos (by simpa using h)]
    rw [if_pos (by simpa using h)] at H
    exact H
theorem rSide_spec (e : RdwC g c p pm x) (inv : Inv23 x) {R : Value → Heap → Prop} (H : R (.tuple #[.int .i64 (sideT x).1, .bool (sideT x).2]) g.h) : HC Tryz.prog F.ref23_Draw_Side #[.pointer (some ⟨p, 0, none⟩)] R g.h := by
  refine ref23_Draw_Side.calls ?_
  unfold ref23_Draw_Side.body
  refine rWhite_spec e inv ⟨((whiteT x).1, (whiteT x).2), rfl, ?_⟩
  try dsimp only
  unfold sideT at H
  dsimp only at H
  by_cases h : (whiteT x).2 = true
  · rw [if_pos h]
    simp only [derefK_some, fldK_some]
    refine loadK_cells e.parts.player x.player (j := 0) (k := .int .i64) rfl rfl ?_
    by_cases hp : (whiteT x).1 = x.player
    · rw [if_neg (by simpa using hp)]
      rw [if_neg (by simp [hp])] at H
      exact H
    · rw [if_pos (by simpa using hp)]
      rw [if_pos ⟨h, hp⟩, h] at H
      exact H
  · rw [if_neg h]
    rw [if_neg (by simp [h])] at H
    exact H
theorem rSay_spec (e : RdwC g c p pm x) (inv : Inv23 x) (d : Nat) {R : Value → Heap → Prop} (H : ∀ (s : Sl) (g' : GH), Mv [] g g' → SlC g' d ShMsg s (sayT23 x) → R (.slice s.a s.n s.c) g'.h) : HC Tryz.prog F.ref23_Draw_Say #[.pointer (some ⟨p, 0, none⟩)] R g.h := by
  refine ref23_Draw_Say.calls ?_
  unfold ref23_Draw_Say.body
  have P := e.parts
  have okH := okHidden e.ok
  have okO := okOpen23 e.ok
  unfold sayT23 at H
  refine joinW_intro (fun _ h' => h' = g.h ∧ ¬ x.given = true) ?_ ?_
  · intro J hJ
    simp only [derefK_some, fldK_some]
    refine loadK_cells P.phase x.phase (j := 0) (k := .int .i64) rfl rfl ?_
    by_cases h4 : x.phase = 4
    · rw [if_pos (by simpa using h4)]
      refine loadK_cells P.given x.given (j := 0) (k := .bool) rfl rfl ?_
      by_cases hg : x.given = true
      · rw [if_pos hg]
        rw [if_pos hg] at H
        exact H ⟨none, 0, 0⟩ g (Mv.refl _ _) (SlC.nil _ _ _)
      · rw [if_neg hg]
        exact hJ _ _ ⟨rfl, hg⟩
    · rw [if_neg (by simpa using h4)]
      exact hJ _ _ ⟨rfl, fun h => h4 (inv.1 h)⟩
  rintro _ _ ⟨rfl, hn⟩
  rw [if_neg hn] at H
  simp only [derefK_some, fldK_some]
  refine loadK_cells P.phase x.phase (j := 0) (k := .int .i64) rfl rfl ?_
  by_cases h4 : x.phase = 4
  · rw [if_pos (by simpa using h4)]
    rw [if_pos h4] at H
    refine loadTagAt (cellsTo P.game (by omega)) e.ok.1 ?_
    refine loadK_cells P.player x.player (j := 0) (k := .int .i64) rfl rfl ?_
    refine ⟨_, bldMsg_4 _ e.ok.1 _, ?_⟩
    exact mkMsgs_C g d [abortT23 x] rfl (by simp) (by simp) (by simpa using okAbort23 e.ok) rfl fun s g' m o => H s g' m (o.slc rfl (by simp))
  rw [if_neg (by simpa using h4)]
  rw [if_neg h4] at H
  refine loadTagAt (cellsTo P.game (by omega)) e.ok.1 ?_
  refine loadK_cells P.player x.player (j := 0) (k := .int .i64) rfl rfl ?_
  refine loadTagAt (cellsTo P.tag (by omega)) e.ok.2.2.2.2.1 ?_
  refine ⟨_, bldMsg_1 _ e.ok.1 _ _ e.ok.2.2.2.2.1, ?_⟩
  obtain ⟨y, hy, hyn⟩ := fresh_exists g [c, d]
  simp only [List.mem_cons, List.mem_nil_iff, or_false, not_or] at hyn
  have hre : ∀ j ∈ [y], j ∈ ([] : List Nat) ∨ Fresh g j := fun k hk => .inr (by simp only [List.mem_singleton] at hk; rw [hk]; exact hy)
  refine mkMsgs_C g y [hiddenT x] rfl (by simp) (by simp) (by simpa using okH) rfl fun s1 q1 m1 o1 => ?_
  have P := (e.mv m1 (by simp)).parts
  refine loadK_cells P.phase x.phase (j := 0) (k := .int .i64) rfl rfl ?_
  have m : Mv [y] g q1 := m1.mono (by simp)
  by_cases h1 : x.phase = 1
  · rw [if_neg (by simpa using h1)]
    rw [if_pos h1] at H
    have := o1.re (φ := fun k => if k = y then d else k) m (.inr hy)
    simp at this
    exact H s1 (g.via q1 fun k => if k = y then d else k) (m.re _ hre) (this.slc rfl (by simp))
  rw [if_pos (by simpa using h1)]
  rw [if_neg h1] at H
  refine loadTagAt (cellsTo P.game (by omega)) e.ok.1 ?_
  refine loadK_cells P.player x.player (j := 0) (k := .int .i64) rfl rfl ?_
  refine loadK_cells P.bit x.bit (j := 0) (k := .int .i64) rfl rfl ?_
  refine loadTagAt (cellsTo P.nonce (by omega)) e.ok.2.2.2.1 ?_
  refine ⟨_, bldMsg_2 _ e.ok.1 _ _ _ e.ok.2.2.2.1, ?_⟩
  refine mkMsgs_C q1 d [openT23 x] rfl (by simp) (by simp) (by simpa using okO) rfl fun s2 q2 m2 o2 => ?_
  have n1 : s1.n = 1 := o1.len
  have n2 : s2.n = 1 := o2.len
  refine appendMsgs_C (o1.mv m2 (by simp)) (o2.slc rfl (by simp)) (by omega) fun s3 q3 m3 o3 => ?_
  have m : Mv [y] g q3 := (m.step m2 (by simp)).step m3 (by simp)
  have := o3.re (φ := fun k => if k = y then d else k) m (.inr hy)
  simp at this
  exact H s3 (g.via q3 fun k => if k = y then d else k) (m.re _ hre) (this.slc rfl (by simp))
end

theorem bldRdw (m : Option Addr) (game : List Int) (okg : ShTag.ok game) (a b : Int) (nonce : List Int) (okn : ShTag.ok nonce) (tag : List Int) (okt : ShTag.ok tag) (w : World) :
    (Instr.build T.zugzwangref23_Draw #[(0, .pointer m), (1, .agg (tagA game)), (2, .int .i64 a), (3, .int .i64 b), (4, .agg (tagA nonce)), (5, .int .i64 1), (6, .agg (tagA tag))]).run Tryz.prog w = .ok (.agg (rdwA (.pointer m) (newT23 game a b nonce tag))) w := by
  have te : ∀ u : List Int, tagA u = ⟨ShTag.enc u⟩ := fun u => by rw [encTag]
  rw [te, te, te]
  have h := build_segs (P := Tryz.prog) (t := T.zugzwangref23_Draw) (fs := structFs Tryz.prog T.zugzwangref23_Draw) (parts := #[(0, .pointer m), (1, .agg ⟨ShTag.enc game⟩), (2, .int .i64 a), (3, .int .i64 b), (4, .agg ⟨ShTag.enc nonce⟩), (5, .int .i64 1), (6, .agg ⟨ShTag.enc tag⟩)]) [[.pointer none], ShTag.enc zero32, [.int .i64 0], [.int .i64 0], ShTag.enc zero32, [.int .i64 0], ShTag.enc zero32, ShTag.enc zero32, [.int .i64 0], [.bool false]] (by kernel_rfl) (fun w => by kernel_rfl) (fun w => by kernel_rfl) (fun p hp => by
    simp only [List.mem_cons, List.mem_nil_iff, or_false] at hp
    rcases hp with rfl | rfl | rfl | rfl | rfl | rfl | rfl
    · exact ⟨_, rfl, rfl⟩
    · exact ⟨_, rfl, by show (ShTag.enc game).length = _; rw [lenTag okg, lenTag ok0]⟩
    · exact ⟨_, rfl, rfl⟩
    · exact ⟨_, rfl, rfl⟩
    · exact ⟨_, rfl, by show (ShTag.enc nonce).length = _; rw [lenTag okn, lenTag ok0]⟩
    · exact ⟨_, rfl, rfl⟩
    · exact ⟨_, rfl, by show (ShTag.enc tag).length = _; rw [lenTag okt, lenTag ok0]⟩) w
  rw [h]
  rfl
set_option maxHeartbeats 1000000 in
theorem rNew_spec {g : GH} {cm pm : Nat} (xm : Mk22 g cm pm) (game : List Int) (okg : ShTag.ok game) (player bit : Int) (hp : -9223372036854775808 ≤ player ∧ player ≤ 9223372036854775807) (hb : -9223372036854775808 ≤ bit ∧ bit ≤ 9223372036854775807) (nonce : List Int) (okn : ShTag.ok nonce) (d : Nat) {R : Value → Heap → Prop}
    (H : (coinT true [] game player bit nonce).2.1 = 0 → ∀ (p : Nat) (g' : GH), Mv [] g g' → RdwC g' d p pm (newT23 game player bit nonce (coinT true [] game player bit nonce).1) → R (.tuple #[.pointer (some ⟨p, 0, none⟩), .int .i64 0]) g'.h)
    (H2 : ¬ (coinT true [] game player bit nonce).2.1 = 0 → ∀ g' : GH, Mv [] g g' → R (.tuple #[.pointer none, .int .i64 (coinT true [] game player bit nonce).2.1]) g'.h) :
    HC Tryz.prog F.ref23_New #[.pointer (some ⟨pm, 0, none⟩), .agg (tagA game), .int .i64 player, .int .i64 bit, .agg (tagA nonce)] R g.h := by
  refine ref23_New.calls ?_
  unfold ref23_New.body
  have hgb := okTagB okg
  have hnb := okTagB okn
  refine new_C g 0 fun pg q1 m1 bg => ?_
  refine new_C q1 0 fun pn q2 m2 bn => ?_
  have m := m1.step m2 (L := []) (by simp)
  replace bg := bg.mv m2 (by simp)
  refine loadAgg_whole bg (tagA_size hgb.1) ?_
  refine loadAgg_whole bn (tagA_size hnb.1) ?_
  refine ref22Coin_spec (xm.mv m (by simp)) game okg player bit nonce okn [] fun q3 m3 => ⟨(_, _), rfl, ?_⟩
  replace m := m.step m3 (by simp)
  replace bg := bg.mv m3 (by simp)
  replace bn := bn.mv m3 (by simp)
  try dsimp only
  have okt := coinT_tag true [] game player bit nonce
  generalize coinT true [] game player bit nonce = ct at okt H H2 ⊢
  have htb := okTagB okt
  rw [zTag]
  refine newStore_C q3 0 (by rw [szTag]; simp [htb.1]) (by rw [szTag]; simp) (fun v hv => oneBy _ v hv) fun pt q4 m4 bt => ?_
  replace m := m.step m4 (by simp)
  replace bg := bg.mv m4 (by simp)
  replace bn := bn.mv m4 (by simp)
  by_cases h0 : ct.2.1 = 0
  rotate_left
  · rw [if_pos (by simpa using h0)]
    exact H2 h0 q4 m
  rw [if_neg (by simpa using h0)]
  refine loadAgg_whole bg (tagA_size hgb.1) ?_
  refine loadAgg_whole bn (tagA_size hnb.1) ?_
  refine loadAgg_whole bt (tagA_size htb.1) ?_
  refine ⟨_, bldRdw _ game okg player bit nonce okn ct.1 okt, ?_⟩
  refine new_C q4 d fun p q5 m5 b => ?_
  exact H h0 p q5 (m.step m5 (by simp)) ⟨b, ⟨okg, hp, hb, okn, okt, ok0, okI0, trivial, drwI64 (n := 1) (by decide), trivial⟩, (show (1 : Int) ≤ 1 ∧ (1 : Int) ≤ 4 by decide)⟩

set_option maxHeartbeats 2000000 in
theorem rTake_spec {g : GH} {cr cm p pm d : Nat} (hcm : ¬ cr = cm) (hdc : ¬ d = cr) {x : DrwT} (v : RdwC g cr p pm x) (xm : Mk22 g cm pm) (s : Sl) (xs : List MsgT) (hr : SlC g d ShMsg s xs) {R : Value → Heap → Prop}
    (H : ∀ g' : GH, Mv [cr] g g' → RdwC g' cr p pm (takeT23 true [] x xs).2.2 → R (.int .i64 (takeT23 true [] x xs).1) g'.h) :
    HC Tryz.prog F.ref23_Draw_Take #[.pointer (some ⟨p, 0, none⟩), .slice s.a s.n s.c] R g.h := by
  refine ref23_Draw_Take.calls (l1 := s) ?_
  unfold ref23_Draw_Take.body
  obtain ⟨y, hy, hyn⟩ := fresh_exists g [cr, cm, d]
  simp only [List.mem_cons, List.mem_nil_iff, or_false, not_or] at hyn
  have hre : ∀ j ∈ [cr, y], j ∈ [cr] ∨ Fresh g j := by
    intro j hj
    simp only [List.mem_cons, List.mem_nil_iff, or_false] at hj
    rcases hj with rfl | rfl
    · exact .inl (by simp)
    · exact .inr hy
  have hn : s.n = xs.length := hr.len
  have hsm := hr.small
  refine loopW_rule (fun st h' => ∃ (i : Nat) (q : GH) (z : DrwT), i ≤ xs.length ∧ st = (i : Int) ∧ h' = q.h ∧ Mv [cr, y] g q ∧ RdwC q cr p pm z ∧ (takeT23 true [] x xs).1 = (takeT23 true [] z (xs.drop i)).1 ∧ (takeT23 true [] x xs).2.2 = (takeT23 true [] z (xs.drop i)).2.2) (fun st => xs.length - st.toNat)
    ⟨0, g, x, by omega, rfl, rfl, Mv.refl _ _, v, rfl, rfl⟩ ?_
  rintro X _ _ ⟨i, q, z, hi, rfl, rfl, m, v, ht1, ht2⟩ hX
  try dsimp only
  by_cases hlt : i < xs.length
  rotate_left
  · rw [if_neg (by simp; omega)]
    rw [List.drop_eq_nil_of_le (by omega), takeT23_nil] at ht1 ht2
    have := H (g.via q id) (m.re id hre) (by rw [ht2]; exact v.re (φ := id) m (.inl rfl))
    rw [ht1] at this
    exact this
  rw [if_pos (by simp; omega)]
  have hdrop : xs.drop i = xs[i] :: xs.drop (i + 1) := List.drop_eq_getElem_cons hlt
  rw [hdrop, takeT23_cons] at ht1 ht2
  refine (hr.mv m (by simp [hdc, Ne.symm hyn.2.2])).idxF rfl szF_Msg (by decide) hlt fun b o hcs ok hel => ?_
  refine loadMsgAt hcs ok ?_
  refine newStore_C q y (by rw [szMsg]; simpa using lenMsg ok) (by rw [szMsg, zMsg]; simpa using lenMsg okMsg0) oneMsg23 fun pe q1 m1 be => ?_
  replace m := m.step m1 (by simp)
  replace v := v.mv m1 (by simp)
  generalize xs[i] = w at ht1 ht2 ok be
  have P := v.parts
  obtain ⟨hone1, hone2, hone3⟩ := one_real [] z w
  rw [hone1] at ht1 ht2
  have bad : ∀ (q' : GH) (n : Int), Mv [cr, y] g q' → RdwC q' cr p pm z → ¬ n = 0 → oneT23 true [] z w = (n, [], z) → R (.int .i64 n) q'.h := by
    intro q' n m' v' hn0 he
    rw [he, if_neg hn0] at ht1 ht2
    have := H (g.via q' id) (m'.re id hre) (by rw [ht2]; exact v'.re (φ := id) m' (.inl rfl))
    rw [ht1] at this
    exact this
  refine joinW_intro (fun s h' => s = decide (¬ rightOk w = true ∨ ¬ (w.kind = 1 ∨ w.kind = 2 ∨ w.kind = 4)) ∧ ∃ q' : GH, h' = q'.h ∧ Mv [] q1 q') ?_ ?_
  · intro J hJ
    refine loadMsgAt (blkCells be) ok ?_
    refine ref18Right_spec q1 w ok fun q3 m3 => ⟨_, rfl, ?_⟩
    try dsimp only
    have Y := msgAt ok (blkCells (be.mv m3 (by simp)))
    by_cases hrt : rightOk w = true
    · rw [if_neg (by simp [hrt])]
      simp only [fldK_some]
      refine loadK_cells Y.kind w.kind (j := 0) (k := .int .i64) rfl rfl ?_
      refine hJ _ _ ⟨?_, q3, rfl, m3⟩
      have := (rightOk_more hrt).1
      rw [Bool.eq_iff_iff, beq_iff_eq, decide_eq_true_iff]
      constructor
      · intro h; right; omega
      · rintro (h | h)
        · exact absurd hrt h
        · omega
    · rw [if_pos (by simpa using hrt)]
      exact hJ _ _ ⟨by simp [hrt], q3, rfl, m3⟩
  rintro _ _ ⟨rfl, q3, rfl, m3⟩
  replace m := m.step m3 (by simp)
  replace v := v.mv m3 (by simp)
  replace be := be.mv m3 (by simp)
  have Y := msgAt ok (blkCells be)
  have P := v.parts
  try dsimp only
  by_cases hb : ¬ rightOk w = true ∨ ¬ (w.kind = 1 ∨ w.kind = 2 ∨ w.kind = 4)
  · rw [if_pos (decide_eq_true hb), if_pos (by decide)]
    exact bad q3 2 m v (by decide) (by unfold oneT23; rw [if_pos hb])
  rw [if_neg (by rw [decide_eq_true_eq]; exact hb)]
  simp only [derefK_some, fldK_some]
  refine loadTagAt (cellsTo Y.game (by omega)) ok.2.1 ?_
  refine loadTagAt (cellsTo P.game (by omega)) v.ok.1 ?_
  refine neqF_Tag ok.2.1 v.ok.1 fun r hr => ?_
  by_cases hg : w.game = z.game
  rotate_left
  · rw [if_pos (hr.2 hg), if_pos (by decide)]
    exact bad q3 14 m v (by decide) (by unfold oneT23; rw [if_neg hb, if_pos hg])
  rw [if_neg (fun h => hr.1 h hg)]
  refine loadK_cells Y.sender w.sender (j := 0) (k := .int .i64) rfl rfl ?_
  refine loadK_cells P.player z.player (j := 0) (k := .int .i64) rfl rfl ?_
  by_cases hs : w.sender = z.player
  · rw [if_pos (by simpa using hs), if_pos (by decide)]
    exact bad q3 10 m v (by decide) (by unfold oneT23; rw [if_neg hb, if_neg (by simp [hg]), if_pos hs])
  rw [if_neg (by simpa using hs)]
  have ho : oneT23 true [] z w = if w.kind = 1 then ((committedT z w.commit).1, [], (committedT z w.commit).2) else if w.kind = 2 then revealedT true [] z w else ((leftT z).1, [], (leftT z).2) := by
    unfold oneT23
    rw [if_neg hb, if_neg (by simp [hg]), if_neg hs]
  have after : ∀ q' : GH, Mv [cr] q3 q' → RdwC q' cr p pm (oneT23 true [] z w).2.2 →
      if ((oneT23 true [] z w).1 != 0) = true then R (.int .i64 (oneT23 true [] z w).1) q'.h else X (IntKind.i64.wrap ((i : Int) + 1)) q'.h := by
    intro q' m' v'
    have mm : Mv [cr, y] g q' := m.step m' (by simp)
    by_cases h0 : (oneT23 true [] z w).1 = 0
    · rw [if_neg (by simpa using h0), wrapSucc (by omega)]
      rw [if_pos h0] at ht1 ht2
      exact hX _ _ ⟨i + 1, q', _, by omega, rfl, rfl, mm, v', ht1, ht2⟩ (by simp; omega)
    · rw [if_pos (by simpa using h0)]
      rw [if_neg h0] at ht1 ht2
      have := H (g.via q' id) (mm.re id hre) (by rw [ht2]; exact v'.re (φ := id) mm (.inl rfl))
      rw [ht1] at this
      exact this
  refine loadK_cells Y.kind w.kind (j := 0) (k := .int .i64) rfl rfl ?_
  by_cases h1 : w.kind = 1
  · rw [if_pos (by simpa using h1)]
    rw [if_pos h1] at ho
    rw [ho] at after
    refine loadTagAt (cellsTo Y.commit (by omega)) ok.2.2.2.1 ?_
    exact rCommit_spec v w.commit ok.2.2.2.1 fun q' m' v' => ⟨_, rfl, after q' m' v'⟩
  rw [if_neg (by simpa using h1)]
  rw [if_neg h1] at ho
  refine loadK_cells Y.kind w.kind (j := 0) (k := .int .i64) rfl rfl ?_
  by_cases h2 : w.kind = 2
  · rw [if_pos (by simpa using h2)]
    rw [if_pos h2] at ho
    rw [ho] at after
    refine loadMsgAt (blkCells be) ok ?_
    exact rReveal_spec hcm v (xm.mv m (by simp [Ne.symm hcm, Ne.symm hyn.2.1])) w ok fun q' m' v' => ⟨_, rfl, after q' m' v'⟩
  · rw [if_neg (by simpa using h2)]
    rw [if_neg h2] at ho
    rw [ho] at after
    exact rGive_spec v fun q' m' v' => ⟨_, rfl, after q' m' v'⟩

/-! ### The law -/
theorem drwCopy_spec {g : GH} {c p pm : Nat} {x : DrwT} (e : DrwC g c p pm x) (d : Nat) {R : Value → Heap → Prop} (H : ∀ (p' : Nat) (g' : GH), Mv [] g g' → DrwC g' d p' pm x → R (.pointer (some ⟨p', 0, none⟩)) g'.h) : HC Tryz.prog F.draw_Draw_Copy #[.pointer (some ⟨p, 0, none⟩)] R g.h := by
  refine draw_Draw_Copy.calls ?_
  unfold draw_Draw_Copy.body
  refine drwMade_spec e ⟨_, rfl, ?_⟩
  try dsimp only
  rw [if_neg (by simp), derefK_some]
  have sz : sizeOfT Tryz.prog T.draw_Draw = 134 := by kernel_rfl
  refine loadAgg_whole e.blk (by rw [sz]; exact (drwLen _ e.ok).symm) ?_
  refine newStore_C g d (by rw [sz]; exact drwLen _ e.ok) (by rw [sz]; kernel_rfl) (fun v hv => ?_) fun p' q1 m1 b1 => H p' q1 m1 ⟨b1, e.ok, e.ph⟩
  rcases List.mem_cons.1 hv with rfl | hv
  · rfl
  · exact Sh.enc_one (s := ShDrw) rfl v hv
theorem SameMsgs_spec {g : GH} {c d : Nat} {a b : Sl} {xs : List MsgT} (ha : SlC g c ShMsg a xs) (hb : SlC g d ShMsg b xs) {R : Value → Heap → Prop} (H : R (.bool true) g.h) :
    HC Tryz.prog F.kit_SameMsgs #[.slice a.a a.n a.c, .slice b.a b.n b.c] R g.h := by
  refine kit_SameMsgs.calls (a0 := a) (b1 := b) ?_
  unfold kit_SameMsgs.body
  have hn : a.n = xs.length := ha.len
  have hm : b.n = xs.length := hb.len
  have hs : xs.length ≤ 140737488351232 := ha.small
  rw [if_neg (by simp [hn, hm])]
  refine loopW_rule (fun st h' => ∃ i : Nat, i ≤ xs.length ∧ st = (i : Int) ∧ g.h = h') (fun st => xs.length - st.toNat) ⟨0, by omega, rfl, rfl⟩ ?_
  rintro X _ _ ⟨i, hi, rfl, rfl⟩ hX
  try dsimp only
  by_cases hlt : i < xs.length
  · rw [if_pos (by simp; omega)]
    refine ha.idxF rfl szF_Msg (by decide) hlt fun b1 o1 hcs ok hel => ?_
    refine loadF hcs szF_Msg (by decide) hel ?_
    refine hb.idxF rfl szF_Msg (by decide) hlt fun b2 o2 hcs' ok' hel' => ?_
    refine loadF hcs' szF_Msg (by decide) hel' ?_
    refine neqF_Msg ok ok' fun r hr => ?_
    rw [if_neg (fun h => (hr.1 h) rfl), wrapSucc (by omega)]
    exact hX _ _ ⟨i + 1, by omega, rfl, rfl⟩ (by simp; omega)
  · rw [if_neg (by simp; omega)]
    exact H
theorem say_len (x : DrwT) : (sayT23 x).length ≤ 2 := by
  unfold sayT23
  split; · simp
  split; · simp
  split <;> simp
set_option maxHeartbeats 1000000 in
theorem same23_spec {g : GH} {ce cr p pm pr pmr : Nat} {x : DrwT} (v : DrwC g ce p pm x) (r : RdwC g cr pr pmr x) (inv : Inv23 x) {R : Value → Heap → Prop} (H : ∀ g' : GH, Mv [] g g' → R (.bool true) g'.h) :
    HC Tryz.prog F.law23_same #[.pointer (some ⟨p, 0, none⟩), .pointer (some ⟨pr, 0, none⟩)] R g.h := by
  refine law23_same.calls ?_
  unfold law23_same.body
  refine drwWhite_spec v ⟨((whiteT x).1, (whiteT x).2), rfl, ?_⟩
  refine rWhite_spec r inv ⟨((whiteT x).1, (whiteT x).2), rfl, ?_⟩
  refine drwSide_spec v ⟨((sideT x).1, (sideT x).2), rfl, ?_⟩
  refine rSide_spec r inv ⟨((sideT x).1, (sideT x).2), rfl, ?_⟩
  simp only [derefK_some, fldK_some]
  refine loadK_cells r.parts.phase x.phase (j := 0) (k := .int .i64) rfl rfl ?_
  refine drwPhase_spec v ⟨_, rfl, ?_⟩
  refine ⟨stillK_cells r.parts.phase (j := 0) (k := .int .i64) rfl rfl, ?_⟩
  try dsimp only
  rw [if_pos (by simp)]
  refine drwSay_spec v 0 fun s1 q1 m1 o1 => ⟨_, rfl, ?_⟩
  have l := say_len x
  refine rSay_spec (r.mv m1 (by simp)) inv 0 fun s2 q2 m2 sl2 => ⟨_, rfl, ?_⟩
  refine SameMsgs_spec ((o1.mv m2 (by simp)).slc rfl (by omega)) sl2 ⟨_, rfl, ?_⟩
  try dsimp only
  rw [if_pos rfl, if_pos (by simp), if_pos (by simp), if_pos (by simp), show ((sideT x).2 == (sideT x).2) = true from by simp]
  exact H q2 (m1.step m2 (by simp))

abbrev ShDeed23 : Sh := .pair (.int .i64) (.pair ShMsg .unit)
abbrev DeedT23 := Int × MsgT × Unit
abbrev DeedT23.act (d : DeedT23) : Int := d.1
abbrev DeedT23.msg (d : DeedT23) : MsgT := d.2.1
theorem szDeed23 : sizeOfT Tryz.prog T.zugzwanglaw23_Deed = ShDeed23.size := by kernel_rfl
def nudge (t : List Int) : List Int := t.set 0 (IntKind.u8.wrap (t.headD 0 + 1))
def msgsT (t : TossT) (own : List MsgT) (d : DeedT23) : List MsgT :=
  if d.act % 8 = 1 then [(1, t.game, IntKind.i64.wrap (1 - t.player), (coinT true [] t.game (IntKind.i64.wrap (1 - t.player)) t.other t.theirs).1, 0, zero32, entry0, ())]
  else if d.act % 8 = 2 then [(2, t.game, IntKind.i64.wrap (1 - t.player), zero32, t.other, t.theirs, entry0, ())]
  else if d.act % 8 = 3 then [(2, t.game, IntKind.i64.wrap (1 - t.player), zero32, IntKind.i64.wrap (1 - t.other), t.theirs, entry0, ())]
  else if d.act % 8 = 4 then [(2, t.game, IntKind.i64.wrap (1 - t.player), zero32, t.other, nudge t.theirs, entry0, ()), d.msg]
  else if d.act % 8 = 5 then [(4, t.game, IntKind.i64.wrap (1 - t.player), zero32, 0, zero32, entry0, ())]
  else if d.act % 8 = 7 then own
  else [d.msg]
theorem wrapI64_wf23 (n : Int) : -9223372036854775808 ≤ IntKind.i64.wrap n ∧ IntKind.i64.wrap n ≤ 9223372036854775807 := by
  simp only [IntKind.wrap, IntKind.bits, IntKind.signed]; simp; omega
theorem okMsg23 {k : Int} (hk : -9223372036854775808 ≤ k ∧ k ≤ 9223372036854775807) {game : List Int} (h1 : ShTag.ok game) {n : Int} (h2 : -9223372036854775808 ≤ n ∧ n ≤ 9223372036854775807) {t : List Int} (h3 : ShTag.ok t) {b : Int} (h4 : -9223372036854775808 ≤ b ∧ b ≤ 9223372036854775807) {u : List Int} (h5 : ShTag.ok u) : ShMsg.ok (k, game, n, t, b, u, entry0, ()) := ⟨hk, h1, h2, h3, h4, h5, okEntry0, trivial⟩
theorem okNudge {t : List Int} (h : ShTag.ok t) : ShTag.ok (nudge t) := by
  obtain ⟨hl, hb⟩ := okTagB h
  refine okTag (by simp [nudge, hl]) fun z hz => ?_
  unfold nudge at hz
  rcases List.mem_or_eq_of_mem_set hz with h | h
  · exact hb z h
  · rw [h]; exact isByte_wrap _
theorem msgs_len (t : TossT) {own : List MsgT} (h : own.length ≤ 2) (d : DeedT23) : (msgsT t own d).length ≤ 2 := by
  unfold msgsT
  split; · simp
  split; · simp
  split; · simp
  split; · simp
  split; · simp
  split
  · exact h
  · simp

set_option maxHeartbeats 2000000 in
theorem msgs_spec {g : GH} {cm pm c0 : Nat} (xm : Mk22 g cm pm) (t : TossT) (okt : ShToss.ok t) (so : Sl) (own : List MsgT) (hso : SlC g c0 ShMsg so own) (d : DeedT23) (okd : ShDeed23.ok d) {R : Value → Heap → Prop}
    (H : ∀ (s : Sl) (g' : GH), Mv [] g g' → SlC g' c0 ShMsg s (msgsT t own d) → R (.slice s.a s.n s.c) g'.h) :
    HC Tryz.prog F.law23_messages #[.pointer (some ⟨pm, 0, none⟩), .agg ⟨ShToss.enc t⟩, .slice so.a so.n so.c, .agg ⟨ShDeed23.enc d⟩] R g.h := by
  refine law23_messages.calls (own2 := so) ?_
  unfold law23_messages.body
  obtain ⟨y, hy, hyn⟩ := fresh_exists g [cm, c0]
  obtain ⟨y2, hy2, hyn2⟩ := fresh_exists g [cm, c0, y]
  simp only [List.mem_cons, List.mem_nil_iff, or_false, not_or] at hyn hyn2
  have hre : ∀ j ∈ [y, y2], j ∈ ([] : List Nat) ∨ Fresh g j := by
    intro j hj
    simp only [List.mem_cons, List.mem_nil_iff, or_false] at hj
    rcases hj with rfl | rfl
    · exact .inr hy
    · exact .inr hy2
  have m := Mv.refl [y, y2] g
  have te : ∀ u : List Int, (⟨ShTag.enc u⟩ : Array Value) = tagA u := fun u => by rw [encTag]
  refine new_C g y fun pt q1 m1 bt => ?_
  refine new_C q1 y fun pd q2 m2 bd => ?_
  replace bt := bt.mv m2 (by simp)
  replace m := m.step (m1.step m2 (L := []) (by simp)) (by simp)
  have Tt := tossAt okt (blkCells bt)
  have hp := wrapI64_wf23 (1 - t.player)
  simp only [fldK_some]
  refine loadK_cells Tt.player t.player (j := 0) (k := .int .i64) rfl rfl ?_
  refine loadTagAt (cellsTo Tt.game (by omega)) okt.1 ?_
  refine loadK_cells Tt.other t.other (j := 0) (k := .int .i64) rfl rfl ?_
  refine loadTagAt (cellsTo Tt.theirs (by omega)) okt.2.2.2.2.2.1 ?_
  generalize hpp : IntKind.i64.wrap (1 - t.player) = pp at hp ⊢
  refine ⟨_, bldMsg_2 _ okt.1 pp t.other _ okt.2.2.2.2.2.1, ?_⟩
  have i2 : -9223372036854775808 ≤ (2 : Int) ∧ (2 : Int) ≤ 9223372036854775807 := by decide
  have okr : ShMsg.ok (2, t.game, pp, zero32, t.other, t.theirs, entry0, ()) := okMsg23 i2 okt.1 hp ok0 okt.2.2.2.1 okt.2.2.2.2.2.1
  refine newStore_C q2 y2 (by rw [szMsg]; simpa using lenMsg okr) (by rw [szMsg, zMsg]; simpa using lenMsg okMsg0) oneMsg23 fun pr q3 m3 br => ?_
  replace m := m.step m3 (by simp)
  replace bt := bt.mv m3 (by simp)
  replace bd := bd.mv m3 (by simp)
  have Tt := tossAt okt (blkCells bt)
  have D0 : CellsC q3 y pd 0 [.int .i64 d.act] := cellsFst (xs := [.int .i64 d.act]) (blkCells bd)
  have D1 : CellsC q3 y pd 1 (ShMsg.enc d.msg) := cellsTo (cellsFst (cellsSnd (n := 1) (xs := [.int .i64 d.act]) (blkCells bd) rfl)) (by omega)
  refine loadK_cells D0 d.act (j := 0) (k := .int .i64) rfl rfl ?_
  refine Pick_spec d.act 8 okd.1 (by decide) ⟨_, rfl, ?_⟩
  try dsimp only
  have hso' : ∀ q : GH, Mv [y, y2] g q → SlC q c0 ShMsg so own := fun q m => hso.mv m (by simp [Ne.symm hyn.2, Ne.symm hyn2.2.1])
  have one : ∀ (q : GH) (z : MsgT), ShMsg.ok z → Mv [y, y2] g q → msgsT t own d = [z] → opK Tryz.prog .slice (Instr.buildSlice T.sl_api_Msg 1 #[(0, .agg ⟨ShMsg.enc z⟩)]) (fun v h => R (.slice v.a v.n v.c) h) q.h := by
    intro q z okz m' he
    refine mkMsgs_C q c0 [z] rfl (by simp) (by simp) (by simpa using okz) rfl fun s4 q4 m4 o4 => ?_
    have M := m'.step m4 (by simp)
    exact H s4 (g.via q4 id) (M.re id hre) (by rw [he]; exact (o4.re (φ := id) M (.inl rfl)).slc rfl (by simp))
  have hu : msgsT t own d = if d.act % 8 = 1 then [(1, t.game, pp, (coinT true [] t.game pp t.other t.theirs).1, 0, zero32, entry0, ())] else if d.act % 8 = 2 then [(2, t.game, pp, zero32, t.other, t.theirs, entry0, ())] else if d.act % 8 = 3 then [(2, t.game, pp, zero32, IntKind.i64.wrap (1 - t.other), t.theirs, entry0, ())] else if d.act % 8 = 4 then [(2, t.game, pp, zero32, t.other, nudge t.theirs, entry0, ()), d.msg] else if d.act % 8 = 5 then [(4, t.game, pp, zero32, 0, zero32, entry0, ())] else if d.act % 8 = 7 then own else [d.msg] := by rw [← hpp]; rfl
  by_cases h1 : d.act % 8 = 1
  · rw [if_pos (by simpa using h1)]
    rw [if_pos h1] at hu
    refine loadTagAt (cellsTo Tt.game (by omega)) okt.1 ?_
    refine loadK_cells Tt.other t.other (j := 0) (k := .int .i64) rfl rfl ?_
    refine loadTagAt (cellsTo Tt.theirs (by omega)) okt.2.2.2.2.2.1 ?_
    rw [te, te]
    refine ref22Coin_spec (xm.mv m (by simp [Ne.symm hyn.1, Ne.symm hyn2.1])) t.game okt.1 pp t.other t.theirs okt.2.2.2.2.2.1 [] fun q4 m4 => ⟨(_, _), rfl, ?_⟩
    replace m := m.step m4 (by simp)
    replace bt := bt.mv m4 (by simp)
    have okc := coinT_tag true [] t.game pp t.other t.theirs
    try dsimp only
    generalize coinT true [] t.game pp t.other t.theirs = ct at okc hu ⊢
    rw [zTag]
    refine newStore_C q4 y2 (by rw [szTag]; simp [(okTagB okc).1]) (by rw [szTag]; simp) (fun v hv => oneBy _ v hv) fun pc q5 m5 bc => ?_
    replace m := m.step m5 (by simp)
    have Tt := tossAt okt (blkCells (bt.mv m5 (by simp)))
    refine loadTagAt (cellsTo Tt.game (by omega)) okt.1 ?_
    refine loadAgg_whole bc (tagA_size (okTagB okc).1) ?_
    rw [show (⟨ct.1.map byV⟩ : Array Value) = ⟨ShTag.enc ct.1⟩ from by rw [encTag]]
    refine ⟨_, bldMsg_1 _ okt.1 _ _ okc, ?_⟩
    exact one q5 _ (okMsg23 (by decide) okt.1 hp okc (by decide) ok0) m hu
  rw [if_neg (by simpa using h1)]
  rw [if_neg h1] at hu
  by_cases h2 : d.act % 8 = 2
  · rw [if_pos (by simpa using h2)]
    rw [if_pos h2] at hu
    refine loadMsgAt (blkCells br) okr ?_
    exact one q3 _ okr m hu
  rw [if_neg (by simpa using h2)]
  rw [if_neg h2] at hu
  have Y := msgAt okr (blkCells br)
  have lr : (⟨ShMsg.enc (2, t.game, pp, zero32, t.other, t.theirs, entry0, ())⟩ : Array Value).size = 234 := by simpa using lenMsg okr
  by_cases h3 : d.act % 8 = 3
  · rw [if_pos (by simpa using h3)]
    rw [if_pos h3] at hu
    simp only [fldK_some]
    refine loadK_cells Y.bit t.other (j := 0) (k := .int .i64) rfl rfl ?_
    refine store_C br (by rw [lr]; decide) rfl fun q4 m4 b4 => ?_
    have b4' := (msgSetBit (2, t.game, pp, zero32, t.other, t.theirs, entry0, ()) (IntKind.i64.wrap (1 - t.other)) ok0 okt.1) ▸ b4
    have okb : ShMsg.ok (2, t.game, pp, zero32, IntKind.i64.wrap (1 - t.other), t.theirs, entry0, ()) := okMsg23 i2 okt.1 hp ok0 (wrapI64_wf23 _) okt.2.2.2.2.2.1
    refine loadMsgAt (blkCells b4') okb ?_
    exact one q4 _ okb (m.step m4 (by simp)) hu
  rw [if_neg (by simpa using h3)]
  rw [if_neg h3] at hu
  by_cases h4 : d.act % 8 = 4
  · rw [if_pos (by simpa using h4)]
    rw [if_pos h4] at hu
    obtain ⟨hl, hb⟩ := okTagB okt.2.2.2.2.2.1
    obtain ⟨t0, tl, htl⟩ : ∃ t0 tl, t.theirs = t0 :: tl := by
      have hl' : t.theirs.length = 32 := hl
      generalize t.theirs = z at hl' ⊢
      cases z with
      | nil => cases hl'
      | cons a b => exact ⟨a, b, rfl⟩
    have Yn : CellsC q3 y2 pr 67 (ShTag.enc t.theirs) := Y.nonce
    have et : ShTag.enc t.theirs = .int .u8 t0 :: tl.map byV := by rw [encTag, htl]; rfl
    rw [et] at Yn
    simp only [fldK_some]
    have htn : tl.length = 31 := by
      have hl' : t.theirs.length = 32 := hl
      rw [htl] at hl'; simpa using hl'
    refine idxArr_N (i := 0) (by kernel_rfl) (by decide) ?_
    refine loadK_cells Yn t0 (j := 0) (k := .int .u8) rfl rfl ?_
    refine idxArr_N (i := 0) (by kernel_rfl) (by decide) ?_
    refine store_C br (by rw [lr]; decide) rfl fun q4 m4 b4 => ?_
    have okn := okNudge okt.2.2.2.2.2.1
    have b4' : BlkC q4 y2 pr ⟨ShMsg.enc (2, t.game, pp, zero32, t.other, nudge t.theirs, entry0, ())⟩ T.api_Msg := by
      have hs := msgSetNonce (2, t.game, pp, zero32, t.other, t.theirs, entry0, ()) (nudge t.theirs) okn okt.2.2.2.2.2.1 ok0 okt.1
      have e2 : overA ⟨ShMsg.enc (2, t.game, pp, zero32, t.other, t.theirs, entry0, ())⟩ 67 (ShTag.enc (nudge t.theirs)) = (⟨ShMsg.enc (2, t.game, pp, zero32, t.other, t.theirs, entry0, ())⟩ : Array Value).setIfInBounds 67 (.int .u8 (IntKind.u8.wrap (t0 + 1))) := by
        have en : ShTag.enc (nudge t.theirs) = .int .u8 (IntKind.u8.wrap (t0 + 1)) :: tl.map byV := by rw [encTag]; unfold nudge; rw [htl]; rfl
        have form : ∀ u : List Value, u.length = 32 → (⟨ShMsg.enc (2, t.game, pp, zero32, t.other, t.theirs, entry0, ())⟩ : Array Value) = ⟨([[.int .i64 2], ShTag.enc t.game, [.int .i64 pp], ShTag.enc zero32, [.int .i64 t.other], ShTag.enc t.theirs, ShEntry.enc entry0] : List (List Value)).flatten⟩ := fun u _ => by simp [Sh.enc]
        rw [form (ShTag.enc t.theirs) (lenTag okt.2.2.2.2.2.1)]
        have h5 := seg_over [[.int .i64 2], ShTag.enc t.game, [.int .i64 pp], ShTag.enc zero32, [.int .i64 t.other], ShTag.enc t.theirs, ShEntry.enc entry0] 5 (ShTag.enc t.theirs) (ShTag.enc (nudge t.theirs)) rfl (by rw [lenTag okn, lenTag okt.2.2.2.2.2.1])
        rw [show ((([[.int .i64 2], ShTag.enc t.game, [.int .i64 pp], ShTag.enc zero32, [.int .i64 t.other], ShTag.enc t.theirs, ShEntry.enc entry0] : List (List Value)).take 5).flatten).length = 67 from by simp [lenTag okt.1, lenTag ok0]] at h5
        rw [h5]
        have h6 := seg_over [[.int .i64 2], ShTag.enc t.game, [.int .i64 pp], ShTag.enc zero32, [.int .i64 t.other], [.int .u8 t0], tl.map byV, ShEntry.enc entry0] 5 [.int .u8 t0] [.int .u8 (IntKind.u8.wrap (t0 + 1))] rfl rfl
        rw [show ((([[.int .i64 2], ShTag.enc t.game, [.int .i64 pp], ShTag.enc zero32, [.int .i64 t.other], [.int .u8 t0], tl.map byV, ShEntry.enc entry0] : List (List Value)).take 5).flatten).length = 67 from by simp [lenTag okt.1, lenTag ok0]] at h6
        rw [overA_single (by simp [lenTag okt.1, lenTag ok0, htn]; omega)] at h6
        have f1 : (([[.int .i64 2], ShTag.enc t.game, [.int .i64 pp], ShTag.enc zero32, [.int .i64 t.other], ShTag.enc t.theirs, ShEntry.enc entry0] : List (List Value)).flatten) = (([[.int .i64 2], ShTag.enc t.game, [.int .i64 pp], ShTag.enc zero32, [.int .i64 t.other], [.int .u8 t0], tl.map byV, ShEntry.enc entry0] : List (List Value)).flatten) := by rw [et]; simp
        rw [f1, h6, en]
        simp
      rw [← hs, e2]
      simpa using b4
    refine loadMsgAt (blkCells b4') (okMsg23 i2 okt.1 hp ok0 okt.2.2.2.1 okn) ?_
    refine loadMsgAt (cellsTo (D1.mv m4 (by simp [Ne.symm hyn2.2.2])) (by omega)) okd.2.1 ?_
    refine mkMsgs_C q4 c0 [(2, t.game, pp, zero32, t.other, nudge t.theirs, entry0, ()), d.msg] rfl (by simp) (by simp) (by
      intro z hz
      simp only [List.mem_cons, List.mem_nil_iff, or_false] at hz
      rcases hz with rfl | rfl
      · exact okMsg23 i2 okt.1 hp ok0 okt.2.2.2.1 okn
      · exact okd.2.1) rfl fun s5 q5 m5 o5 => ?_
    have M := (m.step m4 (by simp)).step m5 (by simp)
    exact H s5 (g.via q5 id) (M.re id hre) (by rw [hu]; exact (o5.re (φ := id) M (.inl rfl)).slc rfl (by simp))
  rw [if_neg (by simpa using h4)]
  rw [if_neg h4] at hu
  by_cases h5 : d.act % 8 = 5
  · rw [if_pos (by simpa using h5)]
    rw [if_pos h5] at hu
    refine loadTagAt (cellsTo Tt.game (by omega)) okt.1 ?_
    refine ⟨_, bldMsg_4 _ okt.1 _, ?_⟩
    exact one q3 _ (okMsg23 (by decide) okt.1 hp ok0 (by decide) ok0) m hu
  rw [if_neg (by simpa using h5)]
  rw [if_neg h5] at hu
  by_cases h7 : d.act % 8 = 7
  · rw [if_pos (by simpa using h7)]
    rw [if_pos h7] at hu
    have := hso' q3 m
    exact H so (g.via q3 id) (m.re id hre) (by
      rw [hu]
      obtain ⟨rd, ok⟩ := this.rdF rfl
      exact .ofF rfl (rd.re (φ := id) m (.inl rfl)) ok this.len this.cap this.small)
  · rw [if_neg (by simpa using h7)]
    rw [if_neg h7] at hu
    refine loadMsgAt (cellsTo D1 (by omega)) okd.2.1 ?_
    exact one q3 _ okd.2.1 m hu

/-! ### The steps of a run, in plain Lean -/
def stepT23 (t : TossT) (x : DrwT) (d : DeedT23) : DrwT := if d.act % 8 = 6 then (abortOne x).2 else (takeT23 true [] x (msgsT t (sayT23 x) d)).2.2
theorem inv_step (t : TossT) {x : DrwT} (h : Inv23 x) (d : DeedT23) : Inv23 (stepT23 t x d) := by
  unfold stepT23
  split
  · exact inv_abort h
  · exact inv_take23 _ _ _ h
theorem inv_steps (t : TossT) : ∀ (l : List DeedT23) {x : DrwT}, Inv23 x → Inv23 (l.foldl (stepT23 t) x)
  | [], _, h => h
  | d :: l, _, h => inv_steps t l (inv_step t h d)
theorem inv_new {game : List Int} {p b : Int} {nonce tag : List Int} (h : (coinT true [] game p b nonce).2.1 = 0) : Inv23 (newT23 game p b nonce tag) := by
  refine ⟨fun h => (by cases h), ?_, .inl rfl⟩
  show b = 0 ∨ b = 1
  unfold coinT someT at h
  by_cases hb : bitT b = true
  · unfold bitT at hb; simpa using hb
  · rw [show (bitT p && bitT b) = false from by simp [hb]] at h
    simp at h
theorem steps_snoc (t : TossT) (l : List DeedT23) (x : DrwT) {i : Nat} (hi : i < l.length) : (l.take (i + 1)).foldl (stepT23 t) x = stepT23 t ((l.take i).foldl (stepT23 t) x) l[i] := by
  rw [List.take_succ_eq_append_getElem hi, List.foldl_append]; rfl
theorem bldMk23 (w : World) : (Instr.build T.zugzwangref04_Maker #[(0, .bool true)]).run Tryz.prog w = .ok (.agg #[.bool true, .slice none 0 0, .slice none 0 0]) w := by kernel_rfl
theorem mkAt23 {g : GH} {c p : Nat} {e : TypeId} (b : BlkC g c p #[.bool true, .slice none 0 0, .slice none 0 0] e) : Mk22 g c p := ⟨_, _, b, rfl⟩

set_option maxHeartbeats 2000000 in
theorem again_spec {g : GH} (t : TossT) (okt : ShToss.ok t) (he : (coinT true [] t.game t.player t.own t.nonce).2.1 = 0) {c1 c2 : Nat} (s : Sl) (l : List DeedT23) (hl : SlC g c1 ShDeed23 s l) (si : Sl) (ms : List MsgT) (hm : SlC g c2 ShMsg si ms) {R : Value → Heap → Prop}
    (H : ∀ g' : GH, Mv [] g g' → R (.int .i64 (takeT23 true [] (l.foldl (stepT23 t) (newT23 t.game t.player t.own t.nonce (coinT true [] t.game t.player t.own t.nonce).1)) ms).1) g'.h) :
    HC Tryz.prog F.law23_again #[.agg ⟨ShToss.enc t⟩, .slice s.a s.n s.c, .slice si.a si.n si.c] R g.h := by
  refine law23_again.calls (l1 := s) (in2 := si) ?_
  unfold law23_again.body
  have hn : s.n = l.length := hl.len
  have hsm := hl.small
  have m := Mv.refl [1, 2, 3, 4] g.base
  have hl0 : ∀ q : GH, Mv [1, 2, 3, 4] g.base q → SlC q 0 ShDeed23 s l := fun q m => hl.arg m (by simp)
  have hm0 : ∀ q : GH, Mv [1, 2, 3, 4] g.base q → SlC q 0 ShMsg si ms := fun q m => hm.arg m (by simp)
  have lt : (⟨ShToss.enc t⟩ : Array Value).size = 99 := by show (ShToss.enc t).length = 99; exact Sh.enc_length (s := ShToss) rfl okt
  have te : ∀ u : List Int, (⟨ShTag.enc u⟩ : Array Value) = tagA u := fun u => by rw [encTag]
  refine new_C g.base 1 fun pt q1 m1 bt => ?_
  replace m := m.step m1 (by simp)
  refine ⟨_, bldMk23 , ?_⟩
  refine new_C q1 2 fun pm q2 m2 bm => ?_
  replace m := m.step m2 (by simp)
  replace bt := bt.mv m2 (by simp)
  have xm := mkAt23 bm
  have Tt := tossAt okt (blkCells bt)
  simp only [fldK_some]
  refine loadTagAt (cellsTo Tt.game (by omega)) okt.1 ?_
  refine loadK_cells Tt.player t.player (j := 0) (k := .int .i64) rfl rfl ?_
  refine loadK_cells Tt.own t.own (j := 0) (k := .int .i64) rfl rfl ?_
  refine loadTagAt (cellsTo Tt.nonce (by omega)) okt.2.2.2.2.1 ?_
  rw [te, te]
  refine rNew_spec xm t.game okt.1 t.player t.own okt.2.1 okt.2.2.1 t.nonce okt.2.2.2.2.1 3 (fun _ pr q3 m3 vr => ⟨(_, _), rfl, ?_⟩) (fun h => absurd he h)
  have inv0 : Inv23 (newT23 t.game t.player t.own t.nonce (coinT true [] t.game t.player t.own t.nonce).1) := inv_new he
  generalize newT23 t.game t.player t.own t.nonce (coinT true [] t.game t.player t.own t.nonce).1 = x0 at vr inv0 H
  replace m := m.step m3 (by simp)
  replace bt := bt.mv m3 (by simp)
  replace xm := xm.mv m3 (by simp)
  try dsimp only
  refine loopW_rule (fun st h' => ∃ (i : Nat) (q : GH), i ≤ l.length ∧ st = (i : Int) ∧ h' = q.h ∧ Mv [1, 2, 3, 4] g.base q ∧ BlkC q 1 pt ⟨ShToss.enc t⟩ T.zugzwanglaw23_Toss ∧ Mk22 q 2 pm ∧ RdwC q 3 pr pm ((l.take i).foldl (stepT23 t) x0)) (fun st => l.length - st.toNat)
    ⟨0, q3, by omega, rfl, rfl, m, bt, xm, vr⟩ ?_
  clear m bt xm vr m1 m2 m3 bm Tt
  rintro X _ _ ⟨i, q, hi, rfl, rfl, m, bt, xm, vr⟩ hX
  try dsimp only
  by_cases hlt : i < l.length
  rotate_left
  · rw [if_neg (by simp; omega)]
    rw [List.take_of_length_le (by omega)] at vr
    refine rTake_spec (by decide) (by decide) vr xm si ms (hm0 q m) fun q4 m4 _ => ⟨_, rfl, ?_⟩
    exact H (g.via q4 fun _ => 0) ((m.step m4 (by simp)).via (by simp) _)
  rw [if_pos (by simp; omega)]
  have inv := inv_steps t (l.take i) inv0
  have hsn := steps_snoc t l x0 hlt
  generalize (l.take i).foldl (stepT23 t) x0 = x at vr inv hsn
  refine (hl0 q m).idxF rfl szDeed23 (by decide) hlt fun b o hcs okd hel => ?_
  have D0 : CellsC q 0 b o [.int .i64 l[i].act] := cellsFst (xs := [.int .i64 l[i].act]) hcs
  try simp only [fldK_some]
  refine loadK_cells D0 l[i].act (j := 0) (k := .int .i64) rfl rfl ?_
  refine Pick_spec l[i].act 8 okd.1 (by decide) ⟨_, rfl, ?_⟩
  try dsimp only
  by_cases h6 : l[i].act % 8 = 6
  · rw [if_pos (by simpa using h6)]
    rw [stepT23, if_pos h6] at hsn
    refine rAbort_spec vr fun q4 m4 vr => ⟨_, rfl, ?_⟩
    try dsimp only
    rw [wrapSucc (by omega)]
    exact hX _ _ ⟨i + 1, q4, by omega, rfl, rfl, m.step m4 (by simp), bt.mv m4 (by simp), xm.mv m4 (by simp), by rw [hsn]; exact vr⟩ (by simp; omega)
  rw [if_neg (by simpa using h6)]
  rw [stepT23, if_neg h6] at hsn
  refine (hl0 q m).idxF rfl szDeed23 (by decide) hlt fun b o hcs okd hel => ?_
  refine loadAgg_whole bt (by rw [szToss, lt]) ?_
  refine loadF hcs szDeed23 (by decide) hel ?_
  refine rSay_spec vr inv 4 fun s4 q4 m4 o4 => ⟨_, rfl, ?_⟩
  refine ⟨stillF (hcs.mv m4 (by simp)) szDeed23 (by decide) hel, ?_⟩
  refine ⟨stillAgg_whole (bt.mv m4 (by simp)) (by rw [szToss, lt]), ?_⟩
  replace m := m.step m4 (by simp)
  replace bt := bt.mv m4 (by simp)
  replace xm := xm.mv m4 (by simp)
  replace vr := vr.mv m4 (by simp)
  refine msgs_spec xm t okt s4 _ o4 l[i] okd fun s5 q5 m5 o5 => ⟨_, rfl, ?_⟩
  replace m := m.step m5 (by simp)
  replace bt := bt.mv m5 (by simp)
  replace xm := xm.mv m5 (by simp)
  replace vr := vr.mv m5 (by simp)
  refine rTake_spec (by decide) (by decide) vr xm s5 _ o5 fun q6 m6 vr => ⟨_, rfl, ?_⟩
  try dsimp only
  rw [wrapSucc (by omega)]
  exact hX _ _ ⟨i + 1, q6, by omega, rfl, rfl, m.step m6 (by simp), bt.mv m6 (by simp), xm.mv m6 (by simp), by rw [hsn]; exact vr⟩ (by simp; omega)

set_option maxHeartbeats 4000000 in
theorem DrawTakes_spec (g : GH) (t : TossT) (okt : ShToss.ok t) (s : Sl) (l : List DeedT23) (hl : SlC g 0 ShDeed23 s l) {R : Value → Heap → Prop} (H : ∀ g' : GH, Mv [] g g' → R (.bool true) g'.h) :
    HC Tryz.prog F.law23_DrawTakes #[.agg ⟨ShToss.enc t⟩, .slice s.a s.n s.c] R g.h := by
  refine law23_DrawTakes.calls (l1 := s) ?_
  unfold law23_DrawTakes.body
  have hn : s.n = l.length := hl.len
  have hsm := hl.small
  have m := Mv.refl [1, 2, 3, 4, 5, 6, 7, 8, 9, 10, 11] g.base
  have hl0 : ∀ q : GH, Mv [1, 2, 3, 4, 5, 6, 7, 8, 9, 10, 11] g.base q → SlC q 0 ShDeed23 s l := fun q m => hl.arg m (by simp)
  have fin : ∀ q : GH, Mv [1, 2, 3, 4, 5, 6, 7, 8, 9, 10, 11] g.base q → R (.bool true) q.h := fun q m => H (g.via q fun _ => 0) (m.via (by simp) _)
  have lt : (⟨ShToss.enc t⟩ : Array Value).size = 99 := by show (ShToss.enc t).length = 99; exact Sh.enc_length (s := ShToss) rfl okt
  have te : ∀ u : List Int, (⟨ShTag.enc u⟩ : Array Value) = tagA u := fun u => by rw [encTag]
  have awake : ∀ q : GH, Mv [1, 2, 3, 4, 5, 6, 7, 8, 9, 10, 11] g.base q → callK Tryz.prog .bool F.law23_awake #[] (fun (v : Bool) h => R (.bool v) h) q.h := by
    intro q m
    refine awake23_spec q fun q' m' => ⟨_, rfl, ?_⟩
    exact fin q' (m.step m' (by simp))
  refine new_C g.base 3 fun pt q1 m1 bt => ?_
  replace m := m.step m1 (by simp)
  by_cases hbig : (s.n : Int) > 120
  · rw [if_pos (by simpa using hbig)]; exact awake q1 m
  rw [if_neg (by simpa using hbig)]
  have Tt := tossAt okt (blkCells bt)
  simp only [fldK_some]
  refine loadTagAt (cellsTo Tt.game (by omega)) okt.1 ?_
  refine loadK_cells Tt.player t.player (j := 0) (k := .int .i64) rfl rfl ?_
  refine loadK_cells Tt.own t.own (j := 0) (k := .int .i64) rfl rfl ?_
  refine loadTagAt (cellsTo Tt.nonce (by omega)) okt.2.2.2.2.1 ?_
  refine makNew_spec q1 1 2 true ⟨none, 0, 0⟩ [] (RdC.nil _ _ 0 _ _) (by simp) (by simp) fun pm q2 m2 xm => ⟨_, rfl, ?_⟩
  replace m := m.step m2 (by simp)
  replace bt := bt.mv m2 (by simp)
  have Tt := tossAt okt (blkCells bt)
  refine ⟨loadTagAt (cellsTo Tt.nonce (by omega)) okt.2.2.2.2.1 rfl, stillK_cells Tt.own (j := 0) (k := .int .i64) rfl rfl, stillK_cells Tt.player (j := 0) (k := .int .i64) rfl rfl, loadTagAt (cellsTo Tt.game (by omega)) okt.1 rfl, ?_⟩
  rw [te, te]
  by_cases he : (coinT true [] t.game t.player t.own t.nonce).2.1 = 0
  rotate_left
  · refine drwNew_spec (by decide) xm t.game okt.1 t.player t.own okt.2.1 okt.2.2.1 t.nonce okt.2.2.2.2.1 6 (fun h => absurd h he) (fun _ q3 m3 xm => ⟨(_, _), rfl, ?_⟩)
    replace m := m.step m3 (by simp)
    replace bt := bt.mv m3 (by simp)
    refine ⟨_, bldMk23, ?_⟩
    refine new_C q3 4 fun pm' q4 m4 bm => ?_
    replace m := m.step m4 (by simp)
    replace bt := bt.mv m4 (by simp)
    have Tt := tossAt okt (blkCells bt)
    simp only [fldK_some]
    refine loadTagAt (cellsTo Tt.game (by omega)) okt.1 ?_
    refine loadK_cells Tt.player t.player (j := 0) (k := .int .i64) rfl rfl ?_
    refine loadK_cells Tt.own t.own (j := 0) (k := .int .i64) rfl rfl ?_
    refine loadTagAt (cellsTo Tt.nonce (by omega)) okt.2.2.2.2.1 ?_
    rw [te, te]
    refine rNew_spec (mkAt23 bm) t.game okt.1 t.player t.own okt.2.1 okt.2.2.1 t.nonce okt.2.2.2.2.1 5 (fun h => absurd h he) (fun _ q5 m5 => ⟨(_, _), rfl, ?_⟩)
    replace m := m.step m5 (by simp)
    try dsimp only
    refine joinW_intro (fun s h' => s = true ∧ h' = q5.h) ?_ ?_
    · intro J hJ
      rw [if_neg (by simp)]
      exact hJ _ _ ⟨rfl, rfl⟩
    · rintro _ _ ⟨rfl, rfl⟩
      rw [if_pos rfl, if_pos (by simp), if_pos (by rfl)]
      exact awake q5 m
  have hr := coinT_real [] t.game t.player t.own t.nonce
  refine drwNew_spec (by decide) xm t.game okt.1 t.player t.own okt.2.1 okt.2.2.1 t.nonce okt.2.2.2.2.1 6 (fun _ pa q3 m3 xm va => ⟨(_, _), rfl, ?_⟩) (fun h => absurd he h)
  replace m := m.step m3 (by simp)
  replace bt := bt.mv m3 (by simp)
  refine ⟨_, bldMk23, ?_⟩
  refine new_C q3 4 fun pm' q4 m4 bm => ?_
  replace m := m.step m4 (by simp)
  replace bt := bt.mv m4 (by simp)
  replace xm := xm.mv m4 (by simp) (by simp)
  replace va := va.mv m4 (by simp)
  have xr := mkAt23 bm
  have Tt := tossAt okt (blkCells bt)
  simp only [fldK_some]
  refine loadTagAt (cellsTo Tt.game (by omega)) okt.1 ?_
  refine loadK_cells Tt.player t.player (j := 0) (k := .int .i64) rfl rfl ?_
  refine loadK_cells Tt.own t.own (j := 0) (k := .int .i64) rfl rfl ?_
  refine loadTagAt (cellsTo Tt.nonce (by omega)) okt.2.2.2.2.1 ?_
  rw [te, te]
  refine rNew_spec xr t.game okt.1 t.player t.own okt.2.1 okt.2.2.1 t.nonce okt.2.2.2.2.1 5 (fun _ pr q5 m5 vr => ⟨(_, _), rfl, ?_⟩) (fun h => absurd he h)
  replace m := m.step m5 (by simp)
  replace bt := bt.mv m5 (by simp)
  replace xm := xm.mv m5 (by simp) (by simp)
  replace va := va.mv m5 (by simp)
  replace xr := xr.mv m5 (by simp)
  have inv0 : Inv23 (newT23 t.game t.player t.own t.nonce (coinT true [] t.game t.player t.own t.nonce).1) := inv_new he
  generalize (coinT true [] t.game t.player t.own t.nonce).2.2 = A0 at xm
  generalize hx0 : newT23 t.game t.player t.own t.nonce (coinT true [] t.game t.player t.own t.nonce).1 = x0 at va vr inv0
  try dsimp only
  refine joinW_intro (fun s h' => s = false ∧ h' = q5.h) ?_ ?_
  · intro J hJ
    rw [if_neg (by simp)]
    exact hJ _ _ ⟨rfl, rfl⟩
  rintro _ _ ⟨rfl, rfl⟩
  rw [if_neg (by simp)]
  refine same23_spec va vr inv0 fun q6 m6 => ⟨_, rfl, ?_⟩
  replace m := m.step m6 (by simp)
  try dsimp only
  rw [if_neg (by simp)]
  refine loopW_rule (fun st h' => ∃ (i : Nat) (q : GH), i ≤ l.length ∧ st = (i : Int) ∧ h' = q.h ∧ Mv [1, 2, 3, 4, 5, 6, 7, 8, 9, 10, 11] g.base q ∧ BlkC q 3 pt ⟨ShToss.enc t⟩ T.zugzwanglaw23_Toss ∧ MakC q 1 2 pm true [] A0 ∧ Mk22 q 4 pm' ∧ DrwC q 6 pa pm ((l.take i).foldl (stepT23 t) x0) ∧ RdwC q 5 pr pm' ((l.take i).foldl (stepT23 t) x0)) (fun st => l.length - st.toNat)
    ⟨0, q6, by omega, rfl, rfl, m, bt.mv m6 (by simp), xm.mv m6 (by simp) (by simp), xr.mv m6 (by simp), va.mv m6 (by simp), vr.mv m6 (by simp)⟩ ?_
  clear m bt xm xr va vr m1 m2 m3 m4 m5 m6 bm Tt
  rintro X _ _ ⟨i, q, hi, rfl, rfl, m, bt, xm, xr, va, vr⟩ hX
  try dsimp only
  by_cases hlt : i < l.length
  rotate_left
  · rw [if_neg (by simp; omega)]
    exact awake q m
  rw [if_pos (by simp; omega)]
  have inv := inv_steps t (l.take i) inv0
  have hsn := steps_snoc t l x0 hlt
  have ags : ∀ (q : GH) {c1 c2 : Nat} (s : Sl) (hl : SlC q c1 ShDeed23 s (l.take i)) (si : Sl) (ms : List MsgT) (hm : SlC q c2 ShMsg si ms) {R : Value → Heap → Prop}
      (H : ∀ g' : GH, Mv [] q g' → R (.int .i64 (takeT23 true [] ((l.take i).foldl (stepT23 t) x0) ms).1) g'.h), HC Tryz.prog F.law23_again #[.agg ⟨ShToss.enc t⟩, .slice s.a s.n s.c, .slice si.a si.n si.c] R q.h := by
    intro q c1 c2 s hl si ms hm R H
    refine again_spec t okt he s _ hl si ms hm ?_
    rw [hx0]; exact H
  generalize (l.take i).foldl (stepT23 t) x0 = x at va vr inv hsn ags
  refine (hl0 q m).idxF rfl szDeed23 (by decide) hlt fun b o hcs okd hel => ?_
  have D0 : CellsC q 0 b o [.int .i64 l[i].act] := cellsFst (xs := [.int .i64 l[i].act]) hcs
  try simp only [fldK_some]
  refine loadK_cells D0 l[i].act (j := 0) (k := .int .i64) rfl rfl ?_
  refine Pick_spec l[i].act 8 okd.1 (by decide) ⟨_, rfl, ?_⟩
  try dsimp only
  have next : ∀ q' : GH, Mv [1, 2, 3, 4, 5, 6, 7, 8, 9, 10, 11] g.base q' → BlkC q' 3 pt ⟨ShToss.enc t⟩ T.zugzwanglaw23_Toss → MakC q' 1 2 pm true [] A0 → Mk22 q' 4 pm' → DrwC q' 6 pa pm (stepT23 t x l[i]) → RdwC q' 5 pr pm' (stepT23 t x l[i]) → X (IntKind.i64.wrap ((i : Int) + 1)) q'.h := by
    intro q' m bt xm xr va vr
    rw [wrapSucc (by omega)]
    exact hX _ _ ⟨i + 1, q', by omega, rfl, rfl, m, bt, xm, xr, by rw [hsn]; exact va, by rw [hsn]; exact vr⟩ (by simp; omega)
  have inv' := inv_step t inv l[i]
  clear hsn hX
  by_cases h6 : l[i].act % 8 = 6
  · rw [if_pos (by simpa using h6)]
    rw [stepT23, if_pos h6] at next inv'
    refine drwAbort_spec va fun q4 m4 va => ⟨_, rfl, ?_⟩
    refine rAbort_spec (vr.mv m4 (by simp)) fun q5 m5 vr => ⟨_, rfl, ?_⟩
    try dsimp only
    rw [if_neg (by simp)]
    have M := (m.step m4 (by simp)).step m5 (by simp)
    replace bt := (bt.mv m4 (by simp)).mv m5 (by simp)
    replace xm := (xm.mv m4 (by simp) (by simp)).mv m5 (by simp) (by simp)
    replace xr := (xr.mv m4 (by simp)).mv m5 (by simp)
    replace va := va.mv m5 (by simp)
    refine same23_spec va vr inv' fun q6 m6 => ⟨_, rfl, ?_⟩
    try dsimp only
    rw [if_neg (by simp)]
    exact next q6 (M.step m6 (by simp)) (bt.mv m6 (by simp)) (xm.mv m6 (by simp) (by simp)) (xr.mv m6 (by simp)) (va.mv m6 (by simp)) (vr.mv m6 (by simp))
  rw [if_neg (by simpa using h6)]
  rw [stepT23, if_neg h6] at next inv'
  refine (hl0 q m).idxF rfl szDeed23 (by decide) hlt fun b o hcs okd hel => ?_
  refine loadAgg_whole bt (by rw [szToss, lt]) ?_
  refine loadF hcs szDeed23 (by decide) hel ?_
  refine rSay_spec vr inv 11 fun s4 q4 m4 o4 => ⟨_, rfl, ?_⟩
  refine ⟨stillF (hcs.mv m4 (by simp)) szDeed23 (by decide) hel, ?_⟩
  refine ⟨stillAgg_whole (bt.mv m4 (by simp)) (by rw [szToss, lt]), ?_⟩
  replace m := m.step m4 (by simp)
  replace bt := bt.mv m4 (by simp)
  replace xm := xm.mv m4 (by simp) (by simp)
  replace xr := xr.mv m4 (by simp)
  replace va := va.mv m4 (by simp)
  replace vr := vr.mv m4 (by simp)
  refine msgs_spec xr t okt s4 _ o4 l[i] okd fun s5 q5 m5 o5 => ⟨_, rfl, ?_⟩
  replace m := m.step m5 (by simp)
  replace bt := bt.mv m5 (by simp)
  replace xm := xm.mv m5 (by simp) (by simp)
  replace xr := xr.mv m5 (by simp)
  replace va := va.mv m5 (by simp)
  replace vr := vr.mv m5 (by simp)
  have hml := msgs_len t (say_len x) l[i]
  generalize msgsT t (sayT23 x) l[i] = ms at o5 hml next inv'
  refine LentMsgs_C q5 10 s5 ms o5 (by omega) fun s6 q6 m6 o6 => ⟨_, rfl, ?_⟩
  replace m := m.step m6 (by simp)
  replace bt := bt.mv m6 (by simp)
  replace xm := xm.mv m6 (by simp) (by simp)
  replace xr := xr.mv m6 (by simp)
  replace va := va.mv m6 (by simp)
  replace vr := vr.mv m6 (by simp)
  replace o5 := o5.mv m6 (by simp)
  refine drwSay_spec va 9 fun s7 q7 m7 o7 => ⟨_, rfl, ?_⟩
  have o7n : s7.n ≤ 2 := by rw [(o7.slc rfl (by have := say_len x; omega)).len]; exact say_len x
  refine OverMsgs_C s7 o7.own (by omega) fun q8 m8' => ⟨(), rfl, ?_⟩
  have m8 : Mv [9] q6 q8 := m7.then m8' (by simp)
  replace m := m.step m8 (by simp)
  replace bt := bt.mv m8 (by simp)
  replace xm := xm.mv m8 (by simp) (by simp)
  replace xr := xr.mv m8 (by simp)
  replace va := va.mv m8 (by simp)
  replace vr := vr.mv m8 (by simp)
  replace o5 := o5.mv m8 (by simp)
  replace o6 := o6.mv m8 (by simp)
  refine drwCopy_spec va 7 fun p9 q9 m9 vc => ⟨_, rfl, ?_⟩
  replace m := m.step m9 (by simp)
  replace bt := bt.mv m9 (by simp)
  replace xm := xm.mv m9 (by simp) (by simp)
  replace xr := xr.mv m9 (by simp)
  replace va := va.mv m9 (by simp)
  replace vr := vr.mv m9 (by simp)
  replace o5 := o5.mv m9 (by simp)
  replace o6 := o6.mv m9 (by simp)
  obtain ⟨k1, k2, k3⟩ := take_real23 A0 ms x
  refine drwTake_spec (by decide) (by decide) (by decide) (by decide) (by decide) vc xm s6 ms (o6.slc rfl (by omega)) fun q10 m10 xm vc => ⟨_, rfl, ?_⟩
  rw [k1] at xm
  replace m := m.step m10 (by simp)
  replace bt := bt.mv m10 (by simp)
  replace xr := xr.mv m10 (by simp)
  replace va := va.mv m10 (by simp)
  replace vr := vr.mv m10 (by simp)
  replace o5 := o5.mv m10 (by simp)
  replace o6 := o6.mv m10 (by simp)
  refine drwAbort_spec vc fun q11 m11 vc => ⟨_, rfl, ?_⟩
  replace m := m.step m11 (by simp)
  replace bt := bt.mv m11 (by simp)
  replace xm := xm.mv m11 (by simp) (by simp)
  replace xr := xr.mv m11 (by simp)
  replace va := va.mv m11 (by simp)
  replace vr := vr.mv m11 (by simp)
  replace o5 := o5.mv m11 (by simp)
  replace o6 := o6.mv m11 (by simp)
  clear vc
  refine drwCopy_spec va 8 fun p12 q12 m12 vc => ⟨_, rfl, ?_⟩
  replace m := m.step m12 (by simp)
  replace bt := bt.mv m12 (by simp)
  replace xm := xm.mv m12 (by simp) (by simp)
  replace xr := xr.mv m12 (by simp)
  replace va := va.mv m12 (by simp)
  replace vr := vr.mv m12 (by simp)
  replace o5 := o5.mv m12 (by simp)
  replace o6 := o6.mv m12 (by simp)
  refine drwTake_spec (by decide) (by decide) (by decide) (by decide) (by decide) va xm s6 ms (o6.slc rfl (by omega)) fun q13 m13 xm va => ⟨_, rfl, ?_⟩
  rw [k1] at xm
  rw [k3] at va
  replace m := m.step m13 (by simp)
  replace bt := bt.mv m13 (by simp)
  replace xr := xr.mv m13 (by simp)
  replace vc := vc.mv m13 (by simp)
  replace vr := vr.mv m13 (by simp)
  replace o5 := o5.mv m13 (by simp)
  replace o6 := o6.mv m13 (by simp)
  refine rTake_spec (by decide) (by decide) vr xr s5 ms o5 fun q14 m14 vr => ⟨_, rfl, ?_⟩
  replace m := m.step m14 (by simp)
  replace bt := bt.mv m14 (by simp)
  replace xm := xm.mv m14 (by simp) (by simp)
  replace xr := xr.mv m14 (by simp)
  replace va := va.mv m14 (by simp)
  replace vc := vc.mv m14 (by simp)
  replace o5 := o5.mv m14 (by simp)
  replace o6 := o6.mv m14 (by simp)
  try dsimp only
  rw [if_neg (by simp [k2])]
  refine KeptMsgs_C s6 s5 ms o6 o5 (by omega) fun q15 m15 => ⟨_, rfl, ?_⟩
  try dsimp only
  rw [if_neg (by simp)]
  replace m := m.step m15 (by simp)
  replace bt := bt.mv m15 (by simp)
  replace xm := xm.mv m15 (by simp) (by simp)
  replace xr := xr.mv m15 (by simp)
  replace va := va.mv m15 (by simp)
  replace vr := vr.mv m15 (by simp)
  replace vc := vc.mv m15 (by simp)
  replace o5 := o5.mv m15 (by simp)
  replace o6 := o6.mv m15 (by simp)
  refine same23_spec va vr inv' fun q16 m16 => ⟨_, rfl, ?_⟩
  try dsimp only
  rw [if_neg (by simp)]
  replace m := m.step m16 (by simp)
  replace bt := bt.mv m16 (by simp)
  replace xm := xm.mv m16 (by simp) (by simp)
  replace xr := xr.mv m16 (by simp)
  replace va := va.mv m16 (by simp)
  replace vr := vr.mv m16 (by simp)
  replace vc := vc.mv m16 (by simp)
  replace o5 := o5.mv m16 (by simp)
  replace o6 := o6.mv m16 (by simp)
  refine slice_upto (n := i) rfl (by have := (hl0 q16 m).cap; omega) ?_
  refine loadAgg_whole bt (by rw [szToss, lt]) ?_
  refine drwTake_spec (by decide) (by decide) (by decide) (by decide) (by decide) vc xm s6 ms (o6.slc rfl (by omega)) fun q17 m17 xm _ => ⟨_, rfl, ?_⟩
  rw [k1] at xm
  replace m := m.step m17 (by simp)
  replace bt := bt.mv m17 (by simp)
  replace xr := xr.mv m17 (by simp)
  replace va := va.mv m17 (by simp)
  replace vr := vr.mv m17 (by simp)
  replace o5 := o5.mv m17 (by simp)
  refine ⟨stillAgg_whole bt (by rw [szToss, lt]), ?_⟩
  have hsub := SlC.subF (h := i) (l := 0) rfl (hl0 q17 m) szDeed23 (by decide) (by omega) (by omega)
  rw [List.drop_zero, Nat.sub_zero] at hsub
  refine ags q17 _ hsub s5 ms o5 fun q18 m18 => ⟨_, rfl, ?_⟩
  try dsimp only
  rw [if_neg (by simp [k2])]
  exact next q18 (m.step m18 (by simp)) (bt.mv m18 (by simp)) (xm.mv m18 (by simp) (by simp)) (xr.mv m18 (by simp)) (va.mv m18 (by simp)) (vr.mv m18 (by simp))

theorem DrawTakes_walk {h : Heap} (ct : Array Value) (t : TossT) (w1 : Lay h ShToss t ct.toList) (a : Option Addr) (la ca : Nat) (x : List DeedT23) (w2 : Lay h (.sl ShDeed23) x [.slice a la ca]) :
    HC Tryz.prog F.law23_DrawTakes #[.agg ct, .slice a la ca] (fun v h' => v = .bool true ∧ Ext h h') h := by
  obtain ⟨ct⟩ := ct
  obtain ⟨rfl, ok1⟩ := LayC.enc (s := ShToss) rfl (w1.arg (Mv.refl [] ⟨h, fun _ => 0⟩) (by simp))
  exact DrawTakes_spec ⟨h, fun _ => 0⟩ t ok1 ⟨a, la, ca⟩ x (w2.arg (Mv.refl [] _) (by simp)) fun g' m => ⟨rfl, m.ext (by simp)⟩

end Go.Proofs.YtgllngcoclnpeaaGreat
