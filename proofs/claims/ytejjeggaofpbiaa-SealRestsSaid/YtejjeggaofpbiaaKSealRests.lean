/-
  The statement SealRests.
-/
import Derived.Test.YtejjeggaofpbiaaKLaw24
set_option linter.unusedSimpArgs false
set_option linter.unusedVariables false
namespace Go.Proofs.Ytejjeggaofpbiaa
open Go Go.Ev

/-! ### In plain Lean -/
theorem sum2_twice (A : List ShThing.T) (bs : List Int) : sum2 false (sum2 false A bs).2 bs = ((sum2 false A bs).1, (sum2 false A bs).2) := by
  unfold sum2
  rw [if_neg (by simp), if_neg (by simp)]
  dsimp only
  rw [askT_there (askT_idx A (thS bs))]
theorem moveT22_twice (A : List ShThing.T) (game : List Int) (number : Int) (x : MoveT) (nonce : List Int) : moveT22 false (moveT22 false A game number x nonce).2.2 game number x nonce = moveT22 false A game number x nonce := by
  unfold moveT22 someT coverT
  by_cases h : moveIs number x = true
  · simp only [if_pos h]
    by_cases hb : (bodyB22 nonce (moveRows game number x)).length ≤ 65536
    · simp only [if_pos hb, sum2_twice]
    · simp only [if_neg hb]
  · simp only [if_neg h]
theorem why_twice (A : List ShThing.T) (x : EnvT) (e : EntryT) : whyT24 false (whyT24 false A x e).2 x e = whyT24 false A x e := by
  unfold whyT24
  by_cases h1 : ¬ entryOk e = true
  · simp only [if_pos h1]
  simp only [if_neg h1]
  by_cases h2 : ¬ e.game = x.game
  · simp only [if_pos h2]
  simp only [if_neg h2]
  by_cases h3 : ¬ (deedT e.what.say).1 = 0 ∧ ¬ (deedT e.what.say).1 = x.state
  · simp only [if_pos h3]
  simp only [if_neg h3]
  by_cases h4 : (deedT e.what.say).2 > 0 ∧ ¬ e.number = IntKind.i64.wrap (x.no + (deedT e.what.say).2)
  · simp only [if_pos h4]
  simp only [if_neg h4]
  by_cases h5 : (deedT e.what.say).1 = 3
  · simp only [if_pos h5, moveT22_twice]
  · simp only [if_neg h5]
theorem why_state {real : Bool} {A : List ShThing.T} {x : EnvT} {e : EntryT} (h : (whyT24 real A x e).1 = 0) (h4 : ¬ e.what.say = 4) : (x.state = 2 → e.what.say = 6) ∧ (x.state = 3 → e.what.say = 7) := by
  have hs := sayGood (whyGood h)
  have h3 : ¬ (¬ (deedT e.what.say).1 = 0 ∧ ¬ (deedT e.what.say).1 = x.state) := by
    intro h3
    unfold whyT24 at h
    by_cases k1 : ¬ entryOk e = true
    · rw [if_pos k1] at h; cases h
    by_cases k2 : ¬ e.game = x.game
    · rw [if_neg k1, if_pos k2] at h; cases h
    rw [if_neg k1, if_neg k2, if_pos h3] at h
    cases h
  rcases hs with h' | h' | h' | h' | h' | h' | h' <;> rw [h'] at h3 h4 ⊢ <;> simp [deedT] at h3 h4 ⊢ <;> omega
theorem whyResign (A : List ShThing.T) (x : EnvT) : whyT24 false A x (x.game, 0, zero32, plainB 4, ()) = (0, A) := by
  unfold whyT24
  have h1 : entryOk (x.game, 0, zero32, plainB 4, ()) = true := by
    have : bodyOk (plainB 4) = true := by kernel_rfl
    unfold entryOk
    rw [show EntryT.what (x.game, 0, zero32, plainB 4, ()) = plainB 4 from rfl, this]
    rfl
  rw [if_neg (by simp [h1]), if_neg (by simp)]
  have hd : deedT (EntryT.what (x.game, 0, zero32, plainB 4, ())).say = (0, 0) := rfl
  rw [hd, if_neg (by simp), if_neg (by simp), if_neg (by simp)]
theorem does24_game (x : EnvT) (e : EntryT) : (does24 x e).game = x.game := by
  unfold does24
  split; · rfl
  split; · rfl
  split <;> rfl

set_option maxHeartbeats 4000000 in
theorem SealRests_spec (g : GH) (game : List Int) (okg : ShTag.ok game) (s : Sl) (l : List EntryT) (hl : SlC g 0 ShEntry s l) {R : Value → Heap → Prop} (H : ∀ g' : GH, Mv [] g g' → R (.bool true) g'.h) :
    HC Try.prog F.law24_SealRests #[.agg (tagA game), .slice s.a s.n s.c] R g.h := by
  refine law24_SealRests.calls (l1 := s) ?_
  unfold law24_SealRests.body
  have hgb := okTagB okg
  have m := Mv.refl [1, 2, 3, 4, 5, 6, 7] g.base
  have fin : ∀ q : GH, Mv [1, 2, 3, 4, 5, 6, 7] g.base q → R (.bool true) q.h := fun q m => H (g.via q fun _ => 0) (m.via (by simp) _)
  have sl0 : ∀ q : GH, Mv [1, 2, 3, 4, 5, 6, 7] g.base q → SlC q 0 ShEntry s l := fun q m => hl.arg m (by simp)
  have hn : s.n = l.length := hl.len
  refine new_C g.base 3 fun pg q1 m1 bg => ?_
  replace m := m.step m1 (by simp)
  refine awake24_spec q1 fun q2 m2 => ⟨_, rfl, ?_⟩
  replace m := m.step m2 (by simp)
  replace bg := bg.mv m2 (by simp)
  try dsimp only
  rw [if_neg (by simp)]
  by_cases hbig : (s.n : Int) > 120
  · rw [if_pos (by simpa using hbig)]
    exact fin q2 m
  rw [if_neg (by simpa using hbig)]
  refine loadAgg_whole bg (tagA_size hgb.1) ?_
  refine makNew_spec q2 1 2 false ⟨none, 0, 0⟩ [] (RdC.nil _ _ 0 _ _) (by simp) (by simp) fun pm q3 m3 xm => ⟨_, rfl, ?_⟩
  replace m := m.step m3 (by simp)
  replace bg := bg.mv m3 (by simp)
  refine ⟨stillAgg_whole bg (tagA_size hgb.1), ?_⟩
  refine envNew_spec xm game okg 6 fun p q4 m4 v => ⟨(_, _), rfl, ?_⟩
  replace m := m.step m4 (by simp)
  replace bg := bg.mv m4 (by simp)
  replace xm := xm.mv m4 (by simp) (by simp)
  try dsimp only
  rw [if_neg (by simp)]
  refine loopW_rule (fun st h' => ∃ (i : Nat) (q : GH) (A : List ShThing.T) (x : EnvT), i ≤ l.length ∧ st = (i : Int) ∧ h' = q.h ∧ Mv [1, 2, 3, 4, 5, 6, 7] g.base q ∧ BlkC q 3 pg (tagA game) T.api_Tag ∧ EnvC q 6 p pm x ∧ MakC q 1 2 pm false [] A ∧ x.game = game) (fun st => l.length - st.toNat)
    ⟨0, q4, [], _, by omega, rfl, rfl, m, bg, v, xm, rfl⟩ ?_
  clear m bg v xm m1 m2 m3 m4
  rintro X _ _ ⟨i, q, A, x, hi, rfl, rfl, m, bg, v, xm, hgm⟩ hX
  try dsimp only
  by_cases hlt : i < l.length
  rotate_left
  · rw [if_neg (by simp; omega)]
    exact fin q m
  rw [if_pos (by simp; omega)]
  have ld : ∀ (q : GH) (K : Array Value → Prop), Mv [1, 2, 3, 4, 5, 6, 7] g.base q → (ShEntry.ok l[i] → K ⟨ShEntry.enc l[i]⟩) → idxK s (i : Int) (sizeOfT Try.prog T.api_Entry) (fun a => loadAggK (sizeOfT Try.prog T.api_Entry) q.h (some a) K) := by
    intro q K m hK
    refine (sl0 q m).idxF rfl szF_Entry (by decide) hlt fun b o hcs ok hel => ?_
    exact loadEntryAt hcs ok (hK ok)
  have okS : ShTag.ok (sealT x).2.1 := by
    unfold sealT
    split
    · exact ok0
    · exact v.ok.2.2.1
  have hsb := okTagB okS
  have okL : ShMove.ok x.last := v.ok.2.2.2.2.1
  refine envState_spec v ⟨_, rfl, ?_⟩
  try dsimp only
  refine envSeal_spec v fun q1 m1 => ⟨(_, _, _), rfl, ?_⟩
  replace m := m.step m1 (by simp)
  replace bg := bg.mv m1 (by simp)
  replace v := v.mv m1 (by simp)
  replace xm := xm.mv m1 (by simp) (by simp)
  try dsimp only
  rw [zTag]
  refine newStore_C q1 4 (by rw [szTag]; simp [hsb.1]) (by rw [szTag]; simp) (fun v hv => oneBy _ v hv) fun pt q2 m2 bt => ?_
  replace m := m.step m2 (by simp)
  replace bg := bg.mv m2 (by simp)
  replace v := v.mv m2 (by simp)
  replace xm := xm.mv m2 (by simp) (by simp)
  refine envOpened_spec v fun q3 m3 => ⟨(_, _), rfl, ?_⟩
  replace m := m.step m3 (by simp)
  replace bg := bg.mv m3 (by simp)
  replace v := v.mv m3 (by simp)
  replace xm := xm.mv m3 (by simp) (by simp)
  replace bt := bt.mv m3 (by simp)
  try dsimp only
  refine newStore_C q3 4 (by rw [szMove]; rfl) (by rw [szMove]; kernel_rfl) (oneMove _) fun px q4 m4 bx => ?_
  replace m := m.step m4 (by simp)
  replace bg := bg.mv m4 (by simp)
  replace v := v.mv m4 (by simp)
  replace xm := xm.mv m4 (by simp) (by simp)
  replace bt := bt.mv m4 (by simp)
  refine ld q4 _ m fun oke => ?_
  refine envWhy_spec (by decide) (by decide) v xm l[i] oke fun q5 m5 xm => ⟨_, rfl, ?_⟩
  replace m := m.step m5 (by simp)
  replace bg := bg.mv m5 (by simp)
  replace v := v.mv m5 (by simp)
  replace bt := bt.mv m5 (by simp)
  replace bx := bx.mv m5 (by simp)
  try dsimp only
  refine ld q5 _ m fun _ => ?_
  refine mkEntry_C q5 7 oke fun s6 q6 m6 o6 hc6 => ?_
  replace m := m.step m6 (by simp)
  replace bg := bg.mv m6 (by simp)
  replace v := v.mv m6 (by simp)
  replace xm := xm.mv m6 (by simp) (by simp)
  replace bt := bt.mv m6 (by simp)
  replace bx := bx.mv m6 (by simp)
  refine envTake_spec (by decide) (by decide) (by decide) (by decide) (by decide) v xm s6 _ (o6.slc rfl (by simp)) fun q7 m7 xm v => ⟨_, rfl, ?_⟩
  replace m := m.step m7 (by simp)
  replace bg := bg.mv m7 (by simp)
  replace bt := bt.mv m7 (by simp)
  replace bx := bx.mv m7 (by simp)
  try dsimp only
  generalize hw : whyT24 false A x l[i] = w at xm v ⊢
  have hwt : whyT24 false w.2 x l[i] = w := by rw [← hw]; exact why_twice A x l[i]
  have htk : takeT24 false w.2 x [l[i]] = (w.1, w.2, if w.1 = 0 then does24 x l[i] else x) := by
    rw [takeT24_cons, hwt, takeT24_nil]
    by_cases h0 : w.1 = 0
    · rw [if_pos h0, if_pos h0, h0]
    · rw [if_neg h0, if_neg h0]
  rw [htk] at xm v ⊢
  try dsimp only at xm v ⊢
  rw [if_neg (by simp)]
  generalize hx2 : (if w.1 = 0 then does24 x l[i] else x) = x2 at v
  have hgm2 : x2.game = game := by
    rw [← hx2]
    split
    · rw [does24_game]; exact hgm
    · exact hgm
  refine loadAgg_whole bg (tagA_size hgb.1) ?_
  refine ⟨_, bldBody24 4, ?_⟩
  have ok4 : ShBody.ok (plainB 4) := okPlainB (by decide)
  refine ⟨_, bldEntryGB game okg _ ok4, ?_⟩
  refine envWhy_spec (by decide) (by decide) v xm _ (okEntry24 okg (by decide) ok4) fun q8 m8 xm => ⟨_, rfl, ?_⟩
  have hres : whyT24 false w.2 x2 (game, 0, zero32, plainB 4, ()) = (0, w.2) := by rw [← hgm2]; exact whyResign _ _
  rw [hres] at xm ⊢
  replace m := m.step m8 (by simp)
  replace bg := bg.mv m8 (by simp)
  replace v := v.mv m8 (by simp)
  replace bt := bt.mv m8 (by simp)
  replace bx := bx.mv m8 (by simp)
  try dsimp only at xm ⊢
  rw [if_neg (by simp)]
  refine envSeal_spec v fun q9 m9 => ⟨(_, _, _), rfl, ?_⟩
  replace m := m.step m9 (by simp)
  replace bg := bg.mv m9 (by simp)
  replace v := v.mv m9 (by simp)
  replace xm := xm.mv m9 (by simp) (by simp)
  replace bt := bt.mv m9 (by simp)
  replace bx := bx.mv m9 (by simp)
  try dsimp only
  have okS2 : ShTag.ok (sealT x2).2.1 := by
    unfold sealT
    split
    · exact ok0
    · exact v.ok.2.2.1
  have hsb2 := okTagB okS2
  refine newStore_C q9 5 (by rw [szTag]; simp [hsb2.1]) (by rw [szTag]; simp) (fun v hv => oneBy _ v hv) fun pu q10 m10 bu => ?_
  replace m := m.step m10 (by simp)
  replace bg := bg.mv m10 (by simp)
  replace v := v.mv m10 (by simp)
  replace xm := xm.mv m10 (by simp) (by simp)
  replace bt := bt.mv m10 (by simp)
  replace bx := bx.mv m10 (by simp)
  refine envOpened_spec v fun q11 m11 => ⟨(_, _), rfl, ?_⟩
  replace m := m.step m11 (by simp)
  replace bg := bg.mv m11 (by simp)
  replace v := v.mv m11 (by simp)
  replace xm := xm.mv m11 (by simp) (by simp)
  replace bt := bt.mv m11 (by simp)
  replace bx := bx.mv m11 (by simp)
  replace bu := bu.mv m11 (by simp)
  try dsimp only
  have okL2 : ShMove.ok x2.last := v.ok.2.2.2.2.1
  refine newStore_C q11 5 (by rw [szMove]; rfl) (by rw [szMove]; kernel_rfl) (oneMove _) fun py q12 m12 by_ => ?_
  replace m := m.step m12 (by simp)
  replace bg := bg.mv m12 (by simp)
  replace v := v.mv m12 (by simp)
  replace xm := xm.mv m12 (by simp) (by simp)
  replace bt := bt.mv m12 (by simp)
  replace bx := bx.mv m12 (by simp)
  replace bu := bu.mv m12 (by simp)
  refine joinW_intro (fun _ h' => h' = q12.h) ?_ ?_
  · intro J hJ
    by_cases h0 : w.1 = 0
    · rw [if_neg (by simpa using h0)]
      exact hJ _ _ rfl
    · rw [if_pos (by simpa using h0)]
      rw [if_neg h0] at hx2
      subst hx2
      refine envState_spec v ⟨_, rfl, ?_⟩
      try dsimp only
      rw [if_neg (by simp), if_neg (by simp)]
      refine loadAgg_whole bt (tagA_size hsb.1) ?_
      refine loadAgg_whole bu (tagA_size hsb.1) ?_
      refine tag_neq hsb.1 hsb.2 hsb.1 hsb.2 ?_
      rw [if_neg (by simp), if_neg (by simp)]
      refine loadMoveAt (blkCells bx) ?_
      refine loadMoveAt (blkCells by_) ?_
      refine neqMove_F okL okL ?_
      rw [if_neg (by simp), if_neg (by simp)]
      exact hJ _ _ rfl
  rintro _ _ rfl
  refine (sl0 q12 m).idxF rfl szF_Entry (by decide) hlt fun b o hcs ok hel => ?_
  have E := entryAt ok hcs
  have B := bodyAt ok.2.2.2.1 E.what
  simp only [fldK_some]
  refine loadK_cells B.say l[i].what.say (j := 0) (k := .int .i64) (by omega) rfl ?_
  have next : X (IntKind.i64.wrap ((i : Int) + 1)) q12.h := by
    rw [wrapSucc (by omega)]
    exact hX _ _ ⟨i + 1, q12, _, _, by omega, rfl, rfl, m, bg, v, xm, hgm2⟩ (by simp; omega)
  by_cases h0 : w.1 = 0
  rotate_left
  · rw [if_neg (by simpa using h0)]
    exact next
  rw [if_pos (by simpa using h0)]
  by_cases h4 : l[i].what.say = 4
  · rw [if_neg (by simpa using h4)]
    exact next
  rw [if_pos (by simpa using h4)]
  obtain ⟨r6, r7⟩ := why_state (real := false) (A := A) (x := x) (e := l[i]) (by rw [hw]; exact h0) h4
  by_cases h2 : x.state = 2
  · rw [if_pos (by simpa using h2), if_neg (by simpa using r6 h2), if_neg (by simp [h2])]
    exact next
  · rw [if_neg (by simpa using h2)]
    by_cases h3 : x.state = 3
    · rw [if_pos (by simpa using h3), if_neg (by simpa using r7 h3)]
      exact next
    · rw [if_neg (by simpa using h3)]
      exact next

theorem SealRests_walk {h : Heap} (gm : Array Value) (z : List Int) (w1 : Lay h ShTag z gm.toList) (a : Option Addr) (la ca : Nat) (x : List EntryT) (w2 : Lay h (.sl ShEntry) x [.slice a la ca]) :
    HC Try.prog F.law24_SealRests #[.agg gm, .slice a la ca] (fun v h' => v = .bool true ∧ Ext h h') h := by
  obtain ⟨gm⟩ := gm
  obtain ⟨rfl, ok1⟩ := LayC.enc (s := ShTag) rfl (w1.arg (Mv.refl [] ⟨h, fun _ => 0⟩) (by simp))
  rw [show (⟨ShTag.enc z⟩ : Array Value) = tagA z from by rw [encTag]]
  exact SealRests_spec ⟨h, fun _ => 0⟩ z ok1 ⟨a, la, ca⟩ x (w2.arg (Mv.refl [] _) (by simp)) fun g' m => ⟨rfl, m.ext (by simp)⟩

end Go.Proofs.Ytejjeggaofpbiaa
