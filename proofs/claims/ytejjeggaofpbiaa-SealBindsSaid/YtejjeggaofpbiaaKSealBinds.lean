/-
  The statement SealBinds.
-/
import Derived.Test.YtejjeggaofpbiaaKLaw24
set_option linter.unusedSimpArgs false
set_option linter.unusedVariables false
namespace Go.Proofs.Ytejjeggaofpbiaa
open Go Go.Ev

/-! ### In plain Lean -/
def mvTh (game : List Int) (n : Int) (x : MoveT) (nonce : List Int) : ShThing.T := thS (hideB ++ bodyB22 nonce (moveRows game n x))
theorem mvBody_len {game : List Int} {n : Int} {x : MoveT} {nonce : List Int} (hg : game.length = 32) (hn : nonce.length = 32) : (bodyB22 nonce (moveRows game n x)).length = 91 := by
  simp [bodyB22, rowsB, moveRows, runB, fourB, movB, hg, hn]
theorem moveT22_tab (A : List ShThing.T) {game : List Int} {n : Int} {x : MoveT} {nonce : List Int} (hg : game.length = 32) (hn : nonce.length = 32) (h : moveIs n x = true) :
    moveT22 false A game n x nonce = (numT ((askT A (mvTh game n x nonce)).1 : Int), 0, (askT A (mvTh game n x nonce)).2) := by
  unfold moveT22 someT
  rw [if_pos h]
  unfold coverT
  rw [if_pos (by rw [mvBody_len hg hn]; omega)]
  unfold sum2
  rw [if_neg (by simp)]
  rfl
theorem makeT24_good {A : List ShThing.T} {game : List Int} {n : Int} {x : MoveT} {nonce : List Int} (h : (makeT24 false A game n x nonce).2.2.1 = 0) : moveIs n x = true := by
  by_cases hm : moveIs n x = true
  · exact hm
  · have : (moveT22 false A game n x nonce).2.1 = 2 := by unfold moveT22 someT; rw [if_neg hm]
    unfold makeT24 at h
    rw [if_neg (by rw [this]; decide)] at h
    rw [this] at h
    cases h
theorem moveIs_ok {n : Int} {x : MoveT} (h : moveIs n x = true) : moveOk x = true := by
  unfold moveIs bodyOk namedD moveBody at h
  simp only [BodyT.say, if_true, Bool.and_eq_true] at h
  exact h.2.1
theorem moveOk_byte {x : MoveT} (h : moveOk x = true) : (0 ≤ x.1 ∧ x.1 ≤ 255) ∧ (0 ≤ x.2.1 ∧ x.2.1 ≤ 255) ∧ (0 ≤ x.2.2.1 ∧ x.2.2.1 ≤ 255) := by
  unfold moveOk sqOk becOk at h
  simp only [Bool.and_eq_true, Bool.or_eq_true, decide_eq_true_eq, beq_iff_eq] at h
  omega
theorem wrapU8_id {n : Int} (h : 0 ≤ n ∧ n ≤ 255) : IntKind.u8.wrap n = n := by rw [wrapU8_mod]; omega
theorem mvTh_inj {game : List Int} {n : Int} {x y : MoveT} {nonce other : List Int} (hg : game.length = 32 ∧ ∀ z ∈ game, isByte z) (h1 : nonce.length = 32 ∧ ∀ z ∈ nonce, isByte z) (h2 : other.length = 32 ∧ ∀ z ∈ other, isByte z) (hx : moveOk x = true) (hy : moveOk y = true)
    (h : mvTh game n x nonce = mvTh game n y other) : x = y ∧ nonce = other := by
  have byt : ∀ (z : MoveT) (o : List Int), (∀ w ∈ o, isByte w) → ∀ w ∈ hideB ++ bodyB22 o (moveRows game n z), isByte w := by
    intro z o ho w hw
    rcases List.mem_append.1 hw with hw | hw
    · simp only [hideB, List.mem_cons, List.mem_nil_iff, or_false] at hw
      rcases hw with rfl | rfl | rfl | rfl <;> (unfold isByte; omega)
    rcases List.mem_append.1 hw with hw | hw
    · obtain ⟨r, k1, k2⟩ := List.mem_flatten.1 hw
      obtain ⟨xs, k3, rfl⟩ := List.mem_map.1 k1
      rcases List.mem_append.1 k2 with k2 | k2
      · simp only [fourB, List.mem_cons, List.mem_nil_iff, or_false] at k2
        rcases k2 with rfl | rfl | rfl | rfl <;> exact isByte_wrap _
      · simp only [moveRows, List.mem_cons, List.mem_nil_iff, or_false] at k3
        rcases k3 with rfl | rfl | rfl | rfl
        · simp only [movB, List.mem_cons, List.mem_nil_iff, or_false] at k2
          rcases k2 with rfl | rfl | rfl | rfl <;> (unfold isByte; omega)
        · exact hg.2 w k2
        · simp only [fourB, List.mem_cons, List.mem_nil_iff, or_false] at k2
          rcases k2 with rfl | rfl | rfl | rfl <;> exact isByte_wrap _
        · simp only [List.mem_cons, List.mem_nil_iff, or_false] at k2
          rcases k2 with rfl | rfl | rfl <;> exact isByte_wrap _
    · exact ho w hw
  have e := strOf_inj (byt x nonce h1.2) (byt y other h2.2) (congrArg (fun x : ShThing.T => x.2.2.1) h)
  have e2 := List.append_cancel_left e
  have e3 := List.append_inj e2 (by simp [rowsB, moveRows, runB, fourB, movB, hg.1])
  refine ⟨?_, e3.2⟩
  have e4 := e3.1
  simp only [rowsB, moveRows, runB, List.map_cons, List.map_nil, List.flatten_cons, List.flatten_nil, List.append_nil] at e4
  have e5 := List.append_cancel_left (List.append_cancel_left (List.append_cancel_left e4))
  have e6 := List.append_cancel_left e5
  simp only [List.cons.injEq, and_true] at e6
  obtain ⟨bx1, bx2, bx3⟩ := moveOk_byte hx
  obtain ⟨by1, by2, by3⟩ := moveOk_byte hy
  rw [wrapU8_id bx1, wrapU8_id bx2, wrapU8_id bx3, wrapU8_id by1, wrapU8_id by2, wrapU8_id by3] at e6
  obtain ⟨x1, x2, x3, u⟩ := x
  obtain ⟨y1, y2, y3, u'⟩ := y
  obtain ⟨a, b, c⟩ := e6
  simp only at a b c
  subst a b c
  rfl

structure Binds24 (game : List Int) (n : Int) (x y : MoveT) (nonce other : List Int) (mk1 mk2 : BodyT × BodyT × Int × List ShThing.T) (t1 t2 : List Int) (A : List ShThing.T) : Prop where
  a : mk1.1 = sealB24 t1
  b : mk1.2.1 = openB24 x nonce
  c : mk2.1 = sealB24 t2
  d : mk2.2.1 = openB24 y other
  last : mk2.2.2.2 = A
  ok1 : ShTag.ok t1
  ok2 : ShTag.ok t2
  mx : moveOk x = true
  my : moveOk y = true
  r1 : moveT22 false A game n x nonce = (t1, 0, A)
  r2 : moveT22 false A game n y other = (t2, 0, A)
  same : t1 = t2 ↔ (x = y ∧ nonce = other)
theorem binds24 {game : List Int} {n : Int} {x y : MoveT} {nonce other : List Int} (hg : ShTag.ok game) (h1 : ShTag.ok nonce) (h2 : ShTag.ok other)
    (e1 : (makeT24 false [] game n x nonce).2.2.1 = 0) (e2 : (makeT24 false (makeT24 false [] game n x nonce).2.2.2 game n y other).2.2.1 = 0) :
    ∃ t1 t2 A, Binds24 game n x y nonce other (makeT24 false [] game n x nonce) (makeT24 false (makeT24 false [] game n x nonce).2.2.2 game n y other) t1 t2 A := by
  have hgb := okTagB hg
  have hb1 := okTagB h1
  have hb2 := okTagB h2
  have i1 := makeT24_good e1
  have i2 := makeT24_good e2
  have m1 := moveT22_tab [] hgb.1 hb1.1 i1
  have f1 : makeT24 false [] game n x nonce = (sealB24 (numT ((askT [] (mvTh game n x nonce)).1 : Int)), openB24 x nonce, 0, (askT [] (mvTh game n x nonce)).2) := by
    unfold makeT24
    rw [m1, if_pos rfl]
  rw [f1] at e2 ⊢
  generalize hA1 : (askT [] (mvTh game n x nonce)).2 = A1 at *
  have hl1 : A1.length ≤ 1 := by rw [← hA1]; exact askT_len [] _
  have idx1 : idxIn (mvTh game n x nonce) A1 = some (askT [] (mvTh game n x nonce)).1 := by rw [← hA1]; exact askT_idx _ _
  generalize (askT [] (mvTh game n x nonce)).1 = k1 at *
  have m2 := moveT22_tab A1 hgb.1 hb2.1 i2
  have f2 : makeT24 false A1 game n y other = (sealB24 (numT ((askT A1 (mvTh game n y other)).1 : Int)), openB24 y other, 0, (askT A1 (mvTh game n y other)).2) := by
    unfold makeT24
    rw [m2, if_pos rfl]
  have hs := askT_since A1 (mvTh game n y other)
  have hl2 : (askT A1 (mvTh game n y other)).2.length ≤ 2 := by have := askT_len A1 (mvTh game n y other); omega
  have idx2 : idxIn (mvTh game n y other) (askT A1 (mvTh game n y other)).2 = some (askT A1 (mvTh game n y other)).1 := askT_idx _ _
  have idx1' := hs.idx idx1
  refine ⟨numT (k1 : Int), numT ((askT A1 (mvTh game n y other)).1 : Int), (askT A1 (mvTh game n y other)).2, ?_⟩
  rw [f2]
  generalize (askT A1 (mvTh game n y other)).2 = A2 at *
  generalize (askT A1 (mvTh game n y other)).1 = k2 at *
  have b1 : k1 < A2.length := by
    rcases Nat.lt_or_ge k1 A2.length with h | h
    · exact h
    · exact absurd (idxIn_lt idx1') (by omega)
  have b2 : k2 < A2.length := by
    rcases Nat.lt_or_ge k2 A2.length with h | h
    · exact h
    · exact absurd (idxIn_lt idx2) (by omega)
  refine ⟨rfl, rfl, rfl, rfl, rfl, okTag (numT_length _) (numT_byte _), okTag (numT_length _) (numT_byte _), moveIs_ok i1, moveIs_ok i2, ?_, ?_, ?_⟩
  · rw [moveT22_tab A2 hgb.1 hb1.1 i1, askT_there idx1']
  · rw [moveT22_tab A2 hgb.1 hb2.1 i2, askT_there idx2]
  · constructor
    · intro h
      have hk := numT_inj (by omega) (by omega) h
      rw [← hk] at idx2
      exact mvTh_inj hgb hb1 hb2 (moveIs_ok i1) (moveIs_ok i2) (idxIn_eq idx1' idx2)
    · rintro ⟨rfl, rfl⟩
      rw [idx1'] at idx2
      cases idx2
      rfl

theorem entryOk24 {game : List Int} {n : Int} {b : BodyT} (h0 : 0 ≤ n ∧ n ≤ 4294967295) (hb : bodyOk b = true) : entryOk (game, n, zero32, b, ()) = true := by
  unfold entryOk
  rw [show EntryT.what (game, n, zero32, b, ()) = b from rfl, hb, show EntryT.number (game, n, zero32, b, ()) = n from rfl, decide_eq_true h0.1, decide_eq_true h0.2]
  rfl
theorem sealOk (t : List Int) : bodyOk (sealB24 t) = true := by
  simp [bodyOk, namedD, sealB24, BodyT.say, BodyT.sealed]
theorem openOk {x : MoveT} {t : List Int} (h : moveOk x = true) : bodyOk (openB24 x t) = true := by
  simp [bodyOk, namedD, openB24, BodyT.say, BodyT.move, BodyT.nonce, h]
theorem resumeOk : bodyOk (plainB 6) = true := by kernel_rfl
theorem whySeal (A : List ShThing.T) {game : List Int} {n : Int} (t : List Int) (h0 : 0 ≤ n ∧ n ≤ 4294967295) : whyT24 false A (game, 0, zero32, 1, move0, false, ()) (game, n, zero32, sealB24 t, ()) = (0, A) := by
  unfold whyT24
  rw [if_neg (by simp [entryOk24 h0 (sealOk t)]), if_neg (by simp)]
  have hd : deedT (EntryT.what (game, n, zero32, sealB24 t, ())).say = (1, 0) := rfl
  rw [hd, if_neg (by simp), if_neg (by simp), if_neg (by simp)]
theorem whyResume (A : List ShThing.T) {game : List Int} {n : Int} (t : List Int) (l : MoveT) (o : Bool) (h0 : 0 ≤ n ∧ n ≤ 4294967294) : whyT24 false A (game, n, t, 2, l, o, ()) (game, n + 1, zero32, plainB 6, ()) = (0, A) := by
  unfold whyT24
  rw [if_neg (by simp [entryOk24 (show 0 ≤ n + 1 ∧ n + 1 ≤ 4294967295 by omega) resumeOk]), if_neg (by simp)]
  have hd : deedT (EntryT.what (game, n + 1, zero32, plainB 6, ())).say = (2, 1) := rfl
  rw [hd, if_neg (by simp), if_neg (by simp [wrapI64 (n := n + 1) (by omega) (by omega)]), if_neg (by simp)]
theorem whyOpen {A : List ShThing.T} {game : List Int} {n : Int} {t tz : List Int} {z : MoveT} {nz : List Int} (l : MoveT) (o : Bool) (h0 : 0 ≤ n ∧ n ≤ 2147483648) (hz : moveOk z = true) (r : moveT22 false A game n z nz = (tz, 0, A)) :
    whyT24 false A (game, n, t, 3, l, o, ()) (game, n + 2, zero32, openB24 z nz, ()) = (if t = tz then 0 else 16, A) := by
  unfold whyT24
  rw [if_neg (by simp [entryOk24 (show 0 ≤ n + 2 ∧ n + 2 ≤ 4294967295 by omega) (openOk hz)]), if_neg (by simp)]
  have hd : deedT (EntryT.what (game, n + 2, zero32, openB24 z nz, ())).say = (3, 2) := rfl
  rw [hd, if_neg (by simp), if_neg (by simp [wrapI64 (n := n + 2) (by omega) (by omega)]), if_pos rfl]
  have e : moveT22 false A (EnvT.game (game, n, t, 3, l, o, ())) (EnvT.no (game, n, t, 3, l, o, ())) (EntryT.what (game, n + 2, zero32, openB24 z nz, ())).move (EntryT.what (game, n + 2, zero32, openB24 z nz, ())).nonce = (tz, 0, A) := r
  rw [e]
  show (if fitsT t tz 0 = 0 then (0 : Int) else 16, A) = _
  have ef : fitsT t tz 0 = if t = tz then 0 else 7 := by unfold fitsT; rw [if_neg (by simp)]
  rw [ef]
  by_cases h : t = tz
  · simp [h]
  · simp [h]
theorem whyFar {A : List ShThing.T} {game : List Int} {n k : Int} {t : List Int} {z : MoveT} {nz : List Int} (l : MoveT) (o : Bool) (h0 : 0 ≤ n ∧ n ≤ 2147483648) (hz : moveOk z = true) (hk : ¬ k = n + 2) :
    ¬ (whyT24 false A (game, n, t, 3, l, o, ()) (game, k, zero32, openB24 z nz, ())).1 = 0 := by
  unfold whyT24
  by_cases h1 : entryOk (game, k, zero32, openB24 z nz, ()) = true
  · rw [if_neg (by simp [h1]), if_neg (by simp)]
    have hd : deedT (EntryT.what (game, k, zero32, openB24 z nz, ())).say = (3, 2) := rfl
    rw [hd, if_neg (by simp), if_pos (by
      refine ⟨by simp, ?_⟩
      show ¬ k = IntKind.i64.wrap (n + 2)
      rw [wrapI64 (by omega) (by omega)]
      exact hk)]
    simp
  · rw [if_pos h1]
    simp

/-! ### The walk -/
set_option maxHeartbeats 1000000 in
theorem adjourned_spec {g : GH} {c k pm : Nat} (hck : ¬ c = k) {seed : List Int} {A : List ShThing.T} (xm : MakC g c k pm false seed A) (game : List Int) (okg : ShTag.ok game) (n : Int) (hn : 0 ≤ n ∧ n ≤ 2147483648) (t : List Int) (okt : ShTag.ok t) (ce : Nat) (hce : ¬ ce = k) (hcc : ¬ ce = c) {R : Value → Heap → Prop}
    (H : ∀ (p : Nat) (g' : GH), Mv [k, ce] g g' → MakC g' c k pm false seed A → EnvC g' ce p pm (game, n, t, 3, move0, false, ()) → R (.tuple #[.pointer (some ⟨p, 0, none⟩), .bool true]) g'.h) :
    HC Try.prog F.law24_adjourned #[.pointer (some ⟨pm, 0, none⟩), .agg (tagA game), .int .i64 n, .agg ⟨ShBody.enc (sealB24 t)⟩] R g.h := by
  refine law24_adjourned.calls ?_
  unfold law24_adjourned.body
  have hgb := okTagB okg
  obtain ⟨y, hy, hyn⟩ := fresh_exists g [c, k, ce]
  simp only [List.mem_cons, List.mem_nil_iff, or_false, not_or] at hyn
  have m := Mv.refl [k, ce, y] g
  refine new_C g y fun pg q1 m1 bg => ?_
  refine new_C q1 y fun pb q2 m2 bb => ?_
  have e12 := m1.step m2 (L := []) (by simp)
  replace m := m.step e12 (by simp)
  replace bg := bg.mv m2 (by simp)
  replace xm := xm.mv e12 (by simp) (by simp)
  refine loadAgg_whole bg (tagA_size hgb.1) ?_
  refine envNew_spec xm game okg ce fun p q3 m3 v => ⟨(_, _), rfl, ?_⟩
  replace m := m.step m3 (by simp)
  replace bg := bg.mv m3 (by simp)
  replace bb := bb.mv m3 (by simp)
  replace xm := xm.mv m3 (by simp) (by simp)
  refine loadAgg_whole bg (tagA_size hgb.1) ?_
  refine loadBodyAt (blkCells bb) (okSealB okt) ?_
  refine ⟨_, bldEntryGNB game okg n _ (okSealB okt), ?_⟩
  refine loadAgg_whole bg (tagA_size hgb.1) ?_
  refine ⟨_, bldBody24 6, ?_⟩
  have ok6 : ShBody.ok (plainB 6) := okPlainB (by decide)
  rw [wrapI64 (n := n + 1) (by omega) (by omega)]
  refine ⟨_, bldEntryGNB game okg (n + 1) _ ok6, ?_⟩
  have oka : ShEntry.ok (game, n, zero32, sealB24 t, ()) := okEntry24 okg (by omega) (okSealB okt)
  have okb : ShEntry.ok (game, n + 1, zero32, plainB 6, ()) := okEntry24 okg (by omega) ok6
  refine buildRows_C (e := T.api_Entry) (sz := ShEntry.size) (z := .agg (zerosOf Try.prog T.api_Entry)) (by kernel_rfl) (by kernel_rfl) (by decide) [.agg ⟨ShEntry.enc (game, n, zero32, sealB24 t, ())⟩, .agg ⟨ShEntry.enc (game, n + 1, zero32, plainB 6, ())⟩] rfl (fun v hv => ?_) rfl (by simp) (by show 2 * 135 ≤ 16777216; decide) q3 y fun s q4 m4 o4 hn4 hc4 => ?_
  · simp only [List.mem_cons, List.mem_nil_iff, or_false] at hv
    rcases hv with rfl | rfl
    · show (ShEntry.enc _).length = 135; exact lenEntry oka
    · show (ShEntry.enc _).length = 135; exact lenEntry okb
  have o4' : OwnF T.api_Entry ShEntry q4 y s [(game, n, zero32, sealB24 t, ()), (game, n + 1, zero32, plainB 6, ())] := ⟨by simpa [Value.cells] using o4, by
    intro z hz
    simp only [List.mem_cons, List.mem_nil_iff, or_false] at hz
    rcases hz with rfl | rfl
    · exact oka
    · exact okb, hn4⟩
  replace m := m.step m4 (by simp)
  replace xm := xm.mv m4 (by simp) (by simp)
  replace v := v.mv m4 (by simp)
  refine envTake_spec hck hce hcc hyn.2.1 hyn.2.2 v xm s _ (o4'.slc rfl (by simp)) fun q5 m5 xm v => ⟨_, rfl, ?_⟩
  replace m := m.step m5 (by simp)
  have ht : takeT24 false A (game, 0, zero32, 1, move0, false, ()) [(game, n, zero32, sealB24 t, ()), (game, n + 1, zero32, plainB 6, ())] = (0, A, (game, n, t, 3, move0, false, ())) := by
    rw [takeT24_cons, whySeal A t (by omega), if_pos rfl]
    have hd : does24 (game, 0, zero32, 1, move0, false, ()) (game, n, zero32, sealB24 t, ()) = (game, n, t, 2, move0, false, ()) := rfl
    rw [hd, takeT24_cons]
    have hw := whyResume A (game := game) (n := n) t move0 false (by omega)
    rw [hw, if_pos rfl, takeT24_nil]
    rfl
  rw [ht] at xm v ⊢
  try dsimp only
  rw [if_pos (by simp)]
  exact H p (g.via q5 id) (m.re id fun j hj => by
    simp only [List.mem_cons, List.mem_nil_iff, or_false] at hj
    rcases hj with rfl | rfl | rfl
    · exact .inl (by simp)
    · exact .inl (by simp)
    · exact .inr hy) (xm.re (φ := id) m (.inl rfl) (.inl rfl)) (v.re (φ := id) m (.inl rfl))

set_option maxHeartbeats 4000000 in
theorem SealBinds_spec (g : GH) (game : List Int) (okg : ShTag.ok game) (n : Int) (x y : MoveT) (okx : ShMove.ok x) (oky : ShMove.ok y) (nonce other : List Int) (okn : ShTag.ok nonce) (oko : ShTag.ok other) (far : Int) {R : Value → Heap → Prop} (H : ∀ g' : GH, Mv [] g g' → R (.bool true) g'.h) :
    HC Try.prog F.law24_SealBinds #[.agg (tagA game), .int .i64 n, .agg ⟨ShMove.enc x⟩, .agg ⟨ShMove.enc y⟩, .agg (tagA nonce), .agg (tagA other), .int .i64 far] R g.h := by
  refine law24_SealBinds.calls ?_
  unfold law24_SealBinds.body
  have hgb := okTagB okg
  have hnb := okTagB okn
  have hob := okTagB oko
  have m := Mv.refl [1, 2, 3, 4, 5, 6, 7, 8, 9, 10, 11, 12] g.base
  have fin : ∀ q : GH, Mv [1, 2, 3, 4, 5, 6, 7, 8, 9, 10, 11, 12] g.base q → R (.bool true) q.h := fun q m => H (g.via q fun _ => 0) (m.via (by simp) _)
  refine new_C g.base 3 fun pg q1 m1 bg => ?_
  refine new_C q1 3 fun px q2 m2 bx => ?_
  refine new_C q2 3 fun py q3 m3 by_ => ?_
  refine new_C q3 3 fun pn q4 m4 bn => ?_
  refine new_C q4 3 fun po q5 m5 bo => ?_
  replace bg := (((bg.mv m2 (by simp)).mv m3 (by simp)).mv m4 (by simp)).mv m5 (by simp)
  replace bx := ((bx.mv m3 (by simp)).mv m4 (by simp)).mv m5 (by simp)
  replace by_ := (by_.mv m4 (by simp)).mv m5 (by simp)
  replace bn := bn.mv m5 (by simp)
  replace m := m.step ((((m1.step m2 (L := []) (by simp)).step m3 (by simp)).step m4 (by simp)).step m5 (by simp)) (by simp)
  obtain ⟨P, hP⟩ : ∃ P : GH → Prop, ∀ q, P q ↔ (BlkC q 3 pg (tagA game) T.api_Tag ∧ BlkC q 3 px ⟨ShMove.enc x⟩ T.api_Move ∧ BlkC q 3 py ⟨ShMove.enc y⟩ T.api_Move ∧ BlkC q 3 pn (tagA nonce) T.api_Tag ∧ BlkC q 3 po (tagA other) T.api_Tag) := ⟨fun q => _, fun _ => Iff.rfl⟩
  have Pmv : ∀ {K : List Nat} {q q' : GH}, P q → Mv K q q' → 3 ∉ K → P q' := by
    intro K q q' h m hk
    obtain ⟨a, b, c, d, e⟩ := (hP q).1 h
    exact (hP q').2 ⟨a.mv m hk, b.mv m hk, c.mv m hk, d.mv m hk, e.mv m hk⟩
  have b3 : P q5 := (hP q5).2 ⟨bg, bx, by_, bn, bo⟩
  clear bg bx by_ bn bo m1 m2 m3 m4 m5
  refine awake24_spec q5 fun q6 m6 => ⟨_, rfl, ?_⟩
  replace m := m.step m6 (by simp)
  replace b3 := Pmv b3 m6 (by simp)
  try dsimp only
  rw [if_neg (by simp)]
  by_cases hn0 : n < 0
  · rw [if_pos (by simpa using hn0)]; exact fin q6 m
  rw [if_neg (by simpa using hn0)]
  by_cases hn1 : n > 2147483648
  · rw [if_pos (by simpa using hn1)]; exact fin q6 m
  rw [if_neg (by simpa using hn1)]
  have hn : 0 ≤ n ∧ n ≤ 2147483648 := by omega
  refine makNew_spec q6 1 2 false ⟨none, 0, 0⟩ [] (RdC.nil _ _ 0 _ _) (by simp) (by simp) fun pm q7 m7 xm => ⟨_, rfl, ?_⟩
  replace m := m.step m7 (by simp)
  replace b3 := Pmv b3 m7 (by simp)
  obtain ⟨bg, bx, by_, bn, bo⟩ := (hP q7).1 b3
  refine loadAgg_whole bg (tagA_size hgb.1) ?_
  refine loadMoveAt (blkCells bx) ?_
  refine loadAgg_whole bn (tagA_size hnb.1) ?_
  refine sealMake_spec (by decide) xm game okg n x okx nonce okn fun q8 m8 xm => ⟨(_, _, _), rfl, ?_⟩
  replace m := m.step m8 (by simp)
  replace b3 := Pmv b3 m8 (by simp)
  have ok1 := makeT24_ok (real := false) (A := []) (game := game) (number := n) okx okn
  have ok2 := makeT24_ok (real := false) (A := (makeT24 false [] game n x nonce).2.2.2) (game := game) (number := n) oky oko
  have hbind := fun e1 e2 => binds24 (x := x) (y := y) (n := n) okg okn oko e1 e2
  try dsimp only
  generalize hmk1 : makeT24 false [] game n x nonce = mk1 at xm ok1 ok2 hbind
  have lb0 : (⟨ShBody.enc body0⟩ : Array Value).size = 70 := by simpa using lenBody okBody0
  have l1 : (⟨ShBody.enc mk1.1⟩ : Array Value).size = 70 := by simpa using lenBody ok1.1
  have l2 : (⟨ShBody.enc mk1.2.1⟩ : Array Value).size = 70 := by simpa using lenBody ok1.2
  rw [zBody]
  refine new_C q8 4 fun pa q9 m9 ba => ?_
  refine new_C q9 5 fun pb q10 m10 bb => ?_
  refine storeAgg_C (ba.mv m10 (by simp)) (by rw [szBody]; exact l1) (by rw [szBody, lb0]; decide) oneBody fun q11 m11 ba => ?_
  rw [overA_all (by rw [lb0]; simpa using l1)] at ba
  refine storeAgg_C (bb.mv m11 (by simp)) (by rw [szBody]; exact l2) (by rw [szBody, lb0]; decide) oneBody fun q12 m12 bb => ?_
  rw [overA_all (by rw [lb0]; simpa using l2)] at bb
  replace ba := ba.mv m12 (by simp)
  have e8 : Mv [4, 5] q8 q12 := ((((Mv.refl [4, 5] q8).step m9 (by simp)).step m10 (by simp)).step m11 (by simp)).step m12 (by simp)
  replace m := m.step e8 (by simp)
  replace b3 := Pmv b3 e8 (by simp)
  replace xm := xm.mv e8 (by simp) (by simp)
  clear m9 m10 m11 m12 e8
  obtain ⟨bg, bx, by_, bn, bo⟩ := (hP q12).1 b3
  refine loadAgg_whole bg (tagA_size hgb.1) ?_
  refine loadMoveAt (blkCells by_) ?_
  refine loadAgg_whole bo (tagA_size hob.1) ?_
  refine sealMake_spec (by decide) xm game okg n y oky other oko fun q13 m13 xm => ⟨(_, _, _), rfl, ?_⟩
  replace m := m.step m13 (by simp)
  replace b3 := Pmv b3 m13 (by simp)
  replace ba := ba.mv m13 (by simp)
  replace bb := bb.mv m13 (by simp)
  try dsimp only
  generalize hmk2 : makeT24 false mk1.2.2.2 game n y other = mk2 at xm ok2 hbind
  have l3 : (⟨ShBody.enc mk2.1⟩ : Array Value).size = 70 := by simpa using lenBody ok2.1
  have l4 : (⟨ShBody.enc mk2.2.1⟩ : Array Value).size = 70 := by simpa using lenBody ok2.2
  refine new_C q13 6 fun pc q14 m14 bc => ?_
  refine new_C q14 7 fun pd q15 m15 bd => ?_
  refine storeAgg_C (bc.mv m15 (by simp)) (by rw [szBody]; exact l3) (by rw [szBody, lb0]; decide) oneBody fun q16 m16 bc => ?_
  rw [overA_all (by rw [lb0]; simpa using l3)] at bc
  refine storeAgg_C (bd.mv m16 (by simp)) (by rw [szBody]; exact l4) (by rw [szBody, lb0]; decide) oneBody fun q17 m17 bd => ?_
  rw [overA_all (by rw [lb0]; simpa using l4)] at bd
  replace bc := bc.mv m17 (by simp)
  have e13 : Mv [6, 7] q13 q17 := ((((Mv.refl [6, 7] q13).step m14 (by simp)).step m15 (by simp)).step m16 (by simp)).step m17 (by simp)
  replace m := m.step e13 (by simp)
  replace b3 := Pmv b3 e13 (by simp)
  replace xm := xm.mv e13 (by simp) (by simp)
  replace ba := ba.mv e13 (by simp)
  replace bb := bb.mv e13 (by simp)
  clear m14 m15 m16 m17 e13
  by_cases he1 : mk1.2.2.1 = 0
  rotate_left
  · rw [if_pos (by simpa using he1)]; exact fin q17 m
  rw [if_neg (by simpa using he1)]
  by_cases he2 : mk2.2.2.1 = 0
  rotate_left
  · rw [if_pos (by simpa using he2)]; exact fin q17 m
  rw [if_neg (by simpa using he2)]
  obtain ⟨t1, t2, A, B⟩ := hbind he1 he2
  rw [B.last] at xm
  have oksb := okSealB B.ok1
  have oksd := okSealB B.ok2
  have okob := okOpenB okx okn
  have okod := okOpenB oky oko
  rw [B.a] at ba
  rw [B.b] at bb
  rw [B.c] at bc
  rw [B.d] at bd
  obtain ⟨Q, hQ⟩ : ∃ Q : GH → Prop, ∀ q, Q q ↔ (P q ∧ BlkC q 4 pa ⟨ShBody.enc (sealB24 t1)⟩ T.api_Body ∧ BlkC q 5 pb ⟨ShBody.enc (openB24 x nonce)⟩ T.api_Body ∧ BlkC q 6 pc ⟨ShBody.enc (sealB24 t2)⟩ T.api_Body ∧ BlkC q 7 pd ⟨ShBody.enc (openB24 y other)⟩ T.api_Body) := ⟨fun q => _, fun _ => Iff.rfl⟩
  have Qmv : ∀ {K : List Nat} {q q' : GH}, Q q → Mv K q q' → (∀ j ∈ [3, 4, 5, 6, 7], j ∉ K) → Q q' := by
    intro K q q' h m hk
    obtain ⟨a, b, c, d, e⟩ := (hQ q).1 h
    exact (hQ q').2 ⟨Pmv a m (hk 3 (by simp)), b.mv m (hk 4 (by simp)), c.mv m (hk 5 (by simp)), d.mv m (hk 6 (by simp)), e.mv m (hk 7 (by simp))⟩
  have bq : Q q17 := (hQ q17).2 ⟨b3, ba, bb, bc, bd⟩
  obtain ⟨bg, bx, by_, bn, bo⟩ := (hP q17).1 b3
  refine loadAgg_whole bg (tagA_size hgb.1) ?_
  refine loadBodyAt (blkCells ba) oksb ?_
  refine adjourned_spec (by decide) xm game okg n hn t1 B.ok1 8 (by decide) (by decide) fun p q18 m18 xm v => ⟨(_, _), rfl, ?_⟩
  replace m := m.step m18 (by simp)
  replace bq := Qmv bq m18 (by simp)
  clear b3 ba bb bc bd bg bx by_ bn bo
  try dsimp only
  rw [if_neg (by simp)]
  obtain ⟨b3, ba, bb, bc, bd⟩ := (hQ q18).1 bq
  obtain ⟨bg, bx, by_, bn, bo⟩ := (hP q18).1 b3
  refine loadBodyAt (blkCells ba) oksb ?_
  refine loadBodyAt (blkCells bc) oksd ?_
  refine eqBody_F oksb oksd ?_
  refine loadBodyAt (blkCells bb) okob ?_
  refine loadBodyAt (blkCells bd) okod ?_
  refine eqBody_F okob okod ?_
  have sameS : sealB24 t1 = sealB24 t2 ↔ t1 = t2 := ⟨fun h => congrArg (fun b : BodyT => b.sealed) h, fun h => by rw [h]⟩
  have sameO : openB24 x nonce = openB24 y other ↔ t1 = t2 := by
    rw [B.same]
    exact ⟨fun h => ⟨congrArg (fun b : BodyT => b.move) h, congrArg (fun b : BodyT => b.nonce) h⟩, fun ⟨a, b⟩ => by rw [a, b]⟩
  rw [if_neg (by
    have : decide (sealB24 t1 = sealB24 t2) = decide (openB24 x nonce = openB24 y other) := by rw [Bool.eq_iff_iff, decide_eq_true_iff, decide_eq_true_iff, sameS, sameO]
    rw [this]; simp)]
  refine envCopy_spec v 9 fun pw q19 m19 w => ⟨_, rfl, ?_⟩
  refine envCopy_spec (v.mv m19 (by simp)) 10 fun pu q20 m20 u => ⟨_, rfl, ?_⟩
  have e20 := m19.step m20 (L := []) (by simp)
  replace m := m.step e20 (by simp)
  replace bq := Qmv bq e20 (by simp)
  replace v := v.mv e20 (by simp)
  replace w := w.mv m20 (by simp)
  replace xm := xm.mv e20 (by simp) (by simp)
  clear b3 ba bb bc bd bg bx by_ bn bo m19 m20 e20
  obtain ⟨b3, ba, bb, bc, bd⟩ := (hQ q20).1 bq
  obtain ⟨bg, bx, by_, bn, bo⟩ := (hP q20).1 b3
  refine loadAgg_whole bg (tagA_size hgb.1) ?_
  refine loadBodyAt (blkCells bb) okob ?_
  rw [wrapI64 (n := n + 2) (by omega) (by omega)]
  refine ⟨_, bldEntryGNB game okg (n + 2) _ okob, ?_⟩
  refine mkEntry_C q20 11 (okEntry24 okg (by omega) okob) fun s21 q21 m21 o21 hc21 => ?_
  replace m := m.step m21 (by simp)
  replace bq := Qmv bq m21 (by simp)
  replace xm := xm.mv m21 (by simp) (by simp)
  replace v := v.mv m21 (by simp)
  replace w := w.mv m21 (by simp)
  replace u := u.mv m21 (by simp)
  refine envTake_spec (by decide) (by decide) (by decide) (by decide) (by decide) v xm s21 _ (o21.slc rfl (by simp)) fun q22 m22 xm v => ⟨_, rfl, ?_⟩
  have htv : takeT24 false A (game, n, t1, 3, move0, false, ()) [(game, n + 2, zero32, openB24 x nonce, ())] = (0, A, (game, 0, zero32, 1, x, true, ())) := by
    rw [takeT24_cons, whyOpen move0 false hn B.mx B.r1, if_pos rfl, if_pos rfl, takeT24_nil]
    rfl
  rw [htv] at xm v ⊢
  replace m := m.step m22 (by simp)
  replace bq := Qmv bq m22 (by simp)
  replace w := w.mv m22 (by simp)
  replace u := u.mv m22 (by simp)
  try dsimp only
  clear b3 ba bb bc bd bg bx by_ bn bo
  obtain ⟨b3, ba, bb, bc, bd⟩ := (hQ q22).1 bq
  obtain ⟨bg, bx, by_, bn, bo⟩ := (hP q22).1 b3
  refine loadAgg_whole bg (tagA_size hgb.1) ?_
  refine loadBodyAt (blkCells bd) okod ?_
  refine ⟨_, bldEntryGNB game okg (n + 2) _ okod, ?_⟩
  refine mkEntry_C q22 11 (okEntry24 okg (by omega) okod) fun s23 q23 m23 o23 hc23 => ?_
  replace m := m.step m23 (by simp)
  replace bq := Qmv bq m23 (by simp)
  replace xm := xm.mv m23 (by simp) (by simp)
  replace v := v.mv m23 (by simp)
  replace w := w.mv m23 (by simp)
  replace u := u.mv m23 (by simp)
  refine envTake_spec (by decide) (by decide) (by decide) (by decide) (by decide) w xm s23 _ (o23.slc rfl (by simp)) fun q24 m24 xm w => ⟨_, rfl, ?_⟩
  have htw : takeT24 false A (game, n, t1, 3, move0, false, ()) [(game, n + 2, zero32, openB24 y other, ())] = (if t1 = t2 then 0 else 16, A, (takeT24 false A (game, n, t1, 3, move0, false, ()) [(game, n + 2, zero32, openB24 y other, ())]).2.2) := by
    rw [takeT24_cons, whyOpen move0 false hn B.my B.r2, takeT24_nil]
    by_cases h : t1 = t2
    · rw [if_pos h, if_pos rfl]
    · rw [if_neg h, if_neg (by simp)]
  rw [htw] at xm
  rw [show (takeT24 false A (game, n, t1, 3, move0, false, ()) [(game, n + 2, zero32, openB24 y other, ())]).1 = if t1 = t2 then 0 else 16 from by rw [htw]]
  clear w htw
  replace m := m.step m24 (by simp)
  replace bq := Qmv bq m24 (by simp)
  replace v := v.mv m24 (by simp)
  replace u := u.mv m24 (by simp)
  try dsimp only at xm ⊢
  clear b3 ba bb bc bd bg bx by_ bn bo
  obtain ⟨b3, ba, bb, bc, bd⟩ := (hQ q24).1 bq
  obtain ⟨bg, bx, by_, bn, bo⟩ := (hP q24).1 b3
  refine loadAgg_whole bg (tagA_size hgb.1) ?_
  refine ⟨by decide, ?_⟩
  refine loadBodyAt (blkCells bb) okob ?_
  have hr : -1000 < Int.tmod far 1000 ∧ Int.tmod far 1000 < 1000 := by
    have h1 := Int.tmod_lt_of_pos far (show (0 : Int) < 1000 by decide)
    have h2 := Int.tmod_lt_of_pos (-far) (show (0 : Int) < 1000 by decide)
    rw [Int.neg_tmod] at h2
    omega
  generalize Int.tmod far 1000 = r at hr ⊢
  rw [wrapI64 (n := n + 2 + r) (by omega) (by omega)]
  refine ⟨_, bldEntryGNB game okg (n + 2 + r) _ okob, ?_⟩
  refine envWhy_spec (by decide) (by decide) u xm _ (okEntry24 okg (by omega) okob) fun q25 m25 xm => ⟨_, rfl, ?_⟩
  replace m := m.step m25 (by simp)
  replace bq := Qmv bq m25 (by simp)
  replace v := v.mv m25 (by simp)
  have hfar : (whyT24 false A (game, n, t1, 3, move0, false, ()) (game, n + 2 + r, zero32, openB24 x nonce, ())).1 = 0 ↔ r = 0 := by
    constructor
    · intro h
      by_cases hr0 : r = 0
      · exact hr0
      · exact absurd h (whyFar move0 false hn B.mx (by omega))
    · rintro rfl
      rw [Int.add_zero, whyOpen move0 false hn B.mx B.r1, if_pos rfl]
  generalize (whyT24 false A (game, n, t1, 3, move0, false, ()) (game, n + 2 + r, zero32, openB24 x nonce, ())).1 = wf at hfar ⊢
  try dsimp only
  refine envOpened_spec v fun q26 m26 => ⟨(_, _), rfl, ?_⟩
  replace m := m.step m26 (by simp)
  replace bq := Qmv bq m26 (by simp)
  replace v := v.mv m26 (by simp)
  try dsimp only
  refine newStore_C q26 12 (by rw [szMove]; rfl) (by rw [szMove]; kernel_rfl) (oneMove _) fun pz q27 m27 bz => ?_
  replace m := m.step m27 (by simp)
  replace bq := Qmv bq m27 (by simp)
  replace v := v.mv m27 (by simp)
  clear b3 ba bb bc bd bg bx by_ bn bo
  obtain ⟨b3, ba, bb, bc, bd⟩ := (hQ q27).1 bq
  obtain ⟨bg, bx, by_, bn, bo⟩ := (hP q27).1 b3
  refine joinW_intro (fun _ h' => h' = q27.h) ?_ ?_
  · intro J hJ
    rw [if_neg (by simp), if_neg (by simp)]
    refine loadMoveAt (blkCells bz) ?_
    refine loadMoveAt (blkCells bx) ?_
    refine neqMove_F okx okx ?_
    rw [if_neg (by simp)]
    refine envState_spec v ⟨_, rfl, ?_⟩
    try dsimp only
    rw [if_neg (by simp)]
    refine loadBodyAt (blkCells bb) okob ?_
    refine loadBodyAt (blkCells bd) okod ?_
    refine eqBody_F okob okod ?_
    by_cases h : t1 = t2
    · rw [if_neg (by simp [h, sameO.2 h]), if_neg (by simp [h])]
      exact hJ _ _ rfl
    · have hno : ¬ openB24 x nonce = openB24 y other := fun e => h (sameO.1 e)
      rw [if_neg (by simp [h, hno]), if_pos (by simp [h]), if_neg (by simp [h])]
      exact hJ _ _ rfl
  rintro _ _ rfl
  refine ⟨by decide, ?_⟩
  by_cases hneg : n + 2 + r < 0
  · rw [if_pos (by simpa using hneg)]
    exact fin q27 m
  rw [if_neg (by simpa using hneg)]
  refine ⟨by decide, ?_⟩
  rw [show ((wf == 0) == (r == 0)) = true from by
    have : (wf == 0) = (r == 0) := by rw [Bool.eq_iff_iff, beq_iff_eq, beq_iff_eq]; exact hfar
    rw [this]; simp]
  exact fin q27 m

theorem SealBinds_walk {h : Heap} (gm : Array Value) (z : List Int) (w1 : Lay h ShTag z gm.toList) (n : Int) (hn : (Lit.int IntKind.i64 n).wf = true) (cx : Array Value) (x : MoveT) (w2 : Lay h ShMove x cx.toList) (cy : Array Value) (y : MoveT) (w3 : Lay h ShMove y cy.toList)
    (cn : Array Value) (u : List Int) (w4 : Lay h ShTag u cn.toList) (co : Array Value) (v : List Int) (w5 : Lay h ShTag v co.toList) (far : Int) (hf : (Lit.int IntKind.i64 far).wf = true) :
    HC Try.prog F.law24_SealBinds #[.agg gm, .int .i64 n, .agg cx, .agg cy, .agg cn, .agg co, .int .i64 far] (fun v h' => v = .bool true ∧ Ext h h') h := by
  obtain ⟨gm⟩ := gm
  obtain ⟨cx⟩ := cx
  obtain ⟨cy⟩ := cy
  obtain ⟨cn⟩ := cn
  obtain ⟨co⟩ := co
  obtain ⟨rfl, ok1⟩ := LayC.enc (s := ShTag) rfl (w1.arg (Mv.refl [] ⟨h, fun _ => 0⟩) (by simp))
  obtain ⟨rfl, ok2⟩ := LayC.enc (s := ShMove) rfl (w2.arg (Mv.refl [] ⟨h, fun _ => 0⟩) (by simp))
  obtain ⟨rfl, ok3⟩ := LayC.enc (s := ShMove) rfl (w3.arg (Mv.refl [] ⟨h, fun _ => 0⟩) (by simp))
  obtain ⟨rfl, ok4⟩ := LayC.enc (s := ShTag) rfl (w4.arg (Mv.refl [] ⟨h, fun _ => 0⟩) (by simp))
  obtain ⟨rfl, ok5⟩ := LayC.enc (s := ShTag) rfl (w5.arg (Mv.refl [] ⟨h, fun _ => 0⟩) (by simp))
  have te : ∀ u : List Int, (⟨ShTag.enc u⟩ : Array Value) = tagA u := fun u => by rw [encTag]
  rw [te, te, te]
  exact SealBinds_spec ⟨h, fun _ => 0⟩ z ok1 n x y ok2 ok3 u v ok4 ok5 far fun g' m => ⟨rfl, m.ext (by simp)⟩

end Go.Proofs.Ytejjeggaofpbiaa
