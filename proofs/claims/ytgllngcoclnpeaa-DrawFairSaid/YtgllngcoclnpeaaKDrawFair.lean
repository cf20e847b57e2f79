/-
  The statement DrawFair.
-/
import Derived.Test.YtgllngcoclnpeaaKLaw23
set_option linter.unusedSimpArgs false
set_option linter.unusedVariables false
namespace Go.Proofs.Ytgllngcoclnpeaa
open Go Go.Ev

/-! ### In plain Lean: two runs with unlike bits -/
/-- Lists that are alike but for the first thing. -/
def Sim23 (u v : ShThing.T) (A B : List ShThing.T) : Prop := ∃ Q, A = u :: Q ∧ B = v :: Q
theorem Sim23.ask {u v x : ShThing.T} {A B : List ShThing.T} (s : Sim23 u v A B) (hu : ¬ x = u) (hv : ¬ x = v) : (askT A x).1 = (askT B x).1 ∧ Sim23 u v (askT A x).2 (askT B x).2 := by
  obtain ⟨Q, rfl, rfl⟩ := s
  have h : idxIn x (u :: Q) = idxIn x (v :: Q) := by simp only [idxIn, if_neg hu, if_neg hv]
  unfold askT
  rw [h]
  cases idxIn x (v :: Q) with
  | some k => exact ⟨rfl, Q, rfl, rfl⟩
  | none => exact ⟨by simp, Q ++ [x], by simp, by simp⟩
/-- The same but for the bit. -/
def Alike23 (x y : DrwT) : Prop := y = (x.game, x.player, y.bit, x.nonce, x.tag, x.theirs, x.toss, x.given, x.phase, ())
theorem reveal_kind {w : MsgT} (hr : rightOk w = true) : (w.sender = 0 ∨ w.sender = 1) ∧ (w.kind = 2 → w.bit = 0 ∨ w.bit = 1) := by
  unfold rightOk at hr
  simp only [Bool.and_eq_true] at hr
  obtain ⟨h1, h2, _⟩ := hr
  have e : ∀ n : Int, bitOk n = true → n = 0 ∨ n = 1 := fun n h => by unfold bitOk at h; simpa using h
  refine ⟨e _ h2, fun hk => ?_⟩
  unfold kindOk at h1
  rw [if_neg (by rw [hk]; decide), if_pos hk] at h1
  exact e _ h1
theorem one_fair {game nonce : List Int} {P : Int} (hg : game.length = 32 ∧ ∀ z ∈ game, isByte z) (hn : nonce.length = 32 ∧ ∀ z ∈ nonce, isByte z) (hP : P = 0 ∨ P = 1) {A B : List ShThing.T} (s : Sim23 (cnTh game P 0 nonce) (cnTh game P 1 nonce) A B) {x y : DrwT} (al : Alike23 x y) (hx : x.game = game) (hxp : x.player = P) (w : MsgT) (okw : ShMsg.ok w) :
    (oneT23 false A x w).1 = (oneT23 false B y w).1 ∧ Sim23 (cnTh game P 0 nonce) (cnTh game P 1 nonce) (oneT23 false A x w).2.1 (oneT23 false B y w).2.1 ∧ Alike23 (oneT23 false A x w).2.2 (oneT23 false B y w).2.2 ∧
    (oneT23 false A x w).2.2.game = game ∧ (oneT23 false A x w).2.2.player = P ∧ (oneT23 false A x w).2.2.bit = x.bit ∧ (oneT23 false B y w).2.2.bit = y.bit ∧ ((x.toss = 0 ∨ x.toss = 1) → ((oneT23 false A x w).2.2.toss = 0 ∨ (oneT23 false A x w).2.2.toss = 1)) := by
  have hwn := okTagB okw.2.2.2.2.2.1
  unfold Alike23 at al
  generalize hyb : y.bit = yb at al ⊢
  have hy : y = (x.game, x.player, yb, x.nonce, x.tag, x.theirs, x.toss, x.given, x.phase, ()) := al
  clear al
  subst hy
  obtain ⟨xg, xp, xb, xn, xt, xth, xto, xgi, xph, u⟩ := x
  cases u
  simp only [DrwT.game, DrwT.player, DrwT.bit, DrwT.nonce, DrwT.tag, DrwT.theirs, DrwT.toss, DrwT.given, DrwT.phase] at hx hxp ⊢
  subst hx
  subst hxp
  have same : ∀ (n : Int) (z : DrwT), Alike23 (xg, xp, xb, xn, xt, xth, xto, xgi, xph, ()) (xg, xp, yb, xn, xt, xth, xto, xgi, xph, ()) := fun _ _ => rfl
  unfold oneT23
  by_cases c1 : ¬ rightOk w = true ∨ ¬ (w.kind = 1 ∨ w.kind = 2 ∨ w.kind = 4)
  · rw [if_pos c1, if_pos c1]; exact ⟨rfl, s, rfl, rfl, rfl, rfl, rfl, id⟩
  rw [if_neg c1, if_neg c1]
  by_cases c2 : ¬ w.game = xg
  · rw [if_pos (show ¬ w.game = DrwT.game (xg, xp, xb, xn, xt, xth, xto, xgi, xph, ()) from c2), if_pos (show ¬ w.game = DrwT.game (xg, xp, yb, xn, xt, xth, xto, xgi, xph, ()) from c2)]; exact ⟨rfl, s, rfl, rfl, rfl, rfl, rfl, id⟩
  rw [if_neg (show ¬ ¬ w.game = DrwT.game (xg, xp, xb, xn, xt, xth, xto, xgi, xph, ()) from c2), if_neg (show ¬ ¬ w.game = DrwT.game (xg, xp, yb, xn, xt, xth, xto, xgi, xph, ()) from c2)]
  by_cases c3 : w.sender = xp
  · rw [if_pos (show w.sender = DrwT.player (xg, xp, xb, xn, xt, xth, xto, xgi, xph, ()) from c3), if_pos (show w.sender = DrwT.player (xg, xp, yb, xn, xt, xth, xto, xgi, xph, ()) from c3)]; exact ⟨rfl, s, rfl, rfl, rfl, rfl, rfl, id⟩
  rw [if_neg (show ¬ w.sender = DrwT.player (xg, xp, xb, xn, xt, xth, xto, xgi, xph, ()) from c3), if_neg (show ¬ w.sender = DrwT.player (xg, xp, yb, xn, xt, xth, xto, xgi, xph, ()) from c3)]
  have hrt : rightOk w = true := by
    rcases Classical.em (rightOk w = true) with h | h
    · exact h
    · exact absurd (.inl h) c1
  obtain ⟨hs, hb⟩ := reveal_kind hrt
  by_cases c4 : w.kind = 1
  · rw [if_pos c4, if_pos c4]
    unfold committedT
    simp only [DrwT.game, DrwT.player, DrwT.bit, DrwT.nonce, DrwT.tag, DrwT.theirs, DrwT.toss, DrwT.given, DrwT.phase]
    by_cases d1 : xph = 4
    · simp only [if_pos d1]; exact ⟨trivial, s, rfl, trivial, trivial, trivial, trivial, id⟩
    simp only [if_neg d1]
    by_cases d2 : xph = 1
    · simp only [if_pos d2]; exact ⟨trivial, s, rfl, trivial, trivial, trivial, trivial, id⟩
    simp only [if_neg d2]
    by_cases d3 : xth = w.commit
    · simp only [if_pos d3]; exact ⟨trivial, s, rfl, trivial, trivial, trivial, trivial, id⟩
    · simp only [if_neg d3]; exact ⟨trivial, s, rfl, trivial, trivial, trivial, trivial, id⟩
  rw [if_neg c4, if_neg c4]
  by_cases c5 : w.kind = 2
  rotate_left
  · rw [if_neg c5, if_neg c5]
    unfold leftT
    simp only [DrwT.game, DrwT.player, DrwT.bit, DrwT.nonce, DrwT.tag, DrwT.theirs, DrwT.toss, DrwT.given, DrwT.phase]
    by_cases d1 : xph = 4 ∧ xgi = true
    · simp only [if_pos d1]; exact ⟨trivial, s, rfl, trivial, trivial, trivial, trivial, id⟩
    simp only [if_neg d1]
    by_cases d2 : xph = 4 ∨ xph = 3
    · simp only [if_pos d2]; exact ⟨trivial, s, rfl, trivial, trivial, trivial, trivial, id⟩
    · simp only [if_neg d2]; exact ⟨trivial, s, rfl, trivial, trivial, trivial, trivial, id⟩
  rw [if_pos c5, if_pos c5]
  have hwb := hb c5
  unfold revealedT
  simp only [DrwT.game, DrwT.player, DrwT.bit, DrwT.nonce, DrwT.tag, DrwT.theirs, DrwT.toss, DrwT.given, DrwT.phase]
  by_cases d1 : xph = 4 ∨ xph = 1
  · simp only [if_pos d1]; exact ⟨trivial, s, rfl, trivial, trivial, trivial, trivial, id⟩
  simp only [if_neg d1]
  have n1 : ∀ b : Int, (b = 0 ∨ b = 1) → ¬ cnTh xg w.sender w.bit w.nonce = cnTh xg xp b nonce := by
    intro b hb' h
    exact c3 (cnTh_inj hg hwn hn hs hP hwb hb' h).1
  obtain ⟨a1, a2⟩ := s.ask (n1 0 (.inl rfl)) (n1 1 (.inr rfl))
  have k1 := coinT_tab A (p := w.sender) (b := w.bit) (nonce := w.nonce) hg.1 hwn.1 hs hwb
  have k2 := coinT_tab B (p := w.sender) (b := w.bit) (nonce := w.nonce) hg.1 hwn.1 hs hwb
  rw [← a1] at k2
  rw [k1, k2]
  dsimp only
  generalize numT ((askT A (cnTh xg w.sender w.bit w.nonce)).1 : Int) = tg
  by_cases d2 : fitsT xth tg 0 = 0
  rotate_left
  · simp only [if_pos (show ¬ fitsT xth tg 0 = 0 from d2)]; exact ⟨trivial, a2, rfl, trivial, trivial, trivial, trivial, id⟩
  simp only [if_neg (show ¬ ¬ fitsT xth tg 0 = 0 from fun h => h d2)]
  by_cases d3 : xph = 3
  · simp only [if_pos d3]; exact ⟨trivial, a2, rfl, trivial, trivial, trivial, trivial, id⟩
  · simp only [if_neg d3]; exact ⟨trivial, a2, rfl, trivial, trivial, trivial, trivial, fun _ => hwb⟩

def runT23 : List ShThing.T → DrwT → List MsgT → List Int × List ShThing.T × DrwT
  | A, x, [] => ([], A, x)
  | A, x, w :: l => ((oneT23 false A x w).1 :: (runT23 (oneT23 false A x w).2.1 (oneT23 false A x w).2.2 l).1, (runT23 (oneT23 false A x w).2.1 (oneT23 false A x w).2.2 l).2)
theorem run_fair {game nonce : List Int} {P : Int} (hg : game.length = 32 ∧ ∀ z ∈ game, isByte z) (hn : nonce.length = 32 ∧ ∀ z ∈ nonce, isByte z) (hP : P = 0 ∨ P = 1) : ∀ (l : List MsgT) (A B : List ShThing.T) (x y : DrwT), (∀ w ∈ l, ShMsg.ok w) → Sim23 (cnTh game P 0 nonce) (cnTh game P 1 nonce) A B → Alike23 x y → x.game = game → x.player = P → (x.toss = 0 ∨ x.toss = 1) →
    (runT23 A x l).1 = (runT23 B y l).1 ∧ Alike23 (runT23 A x l).2.2 (runT23 B y l).2.2 ∧ (runT23 A x l).2.2.player = P ∧ (runT23 A x l).2.2.bit = x.bit ∧ (runT23 B y l).2.2.bit = y.bit ∧ ((runT23 A x l).2.2.toss = 0 ∨ (runT23 A x l).2.2.toss = 1)
  | [], A, B, x, y, _, s, al, hx, hp, ht => ⟨rfl, al, hp, rfl, rfl, ht⟩
  | w :: l, A, B, x, y, ok, s, al, hx, hp, ht => by
    obtain ⟨e, s', al', hx', hp', b1, b2, ht'⟩ := one_fair hg hn hP s al hx hp w (ok w (by simp))
    obtain ⟨r1, r2, r3, r4, r5, r6⟩ := run_fair hg hn hP l _ _ _ _ (fun w h => ok w (by simp [h])) s' al' hx' hp' (ht' ht)
    unfold runT23
    exact ⟨by rw [e, r1], r2, r3, by rw [r4, b1], by rw [r5, b2], r6⟩
theorem run_snoc (w : MsgT) : ∀ (l : List MsgT) (A : List ShThing.T) (x : DrwT), runT23 A x (l ++ [w]) = ((runT23 A x l).1 ++ [(oneT23 false (runT23 A x l).2.1 (runT23 A x l).2.2 w).1], (oneT23 false (runT23 A x l).2.1 (runT23 A x l).2.2 w).2)
  | [], A, x => rfl
  | v :: l, A, x => by
    simp only [List.cons_append, runT23, run_snoc w l]
theorem run_len : ∀ (l : List MsgT) (A : List ShThing.T) (x : DrwT), (runT23 A x l).1.length = l.length
  | [], A, x => rfl
  | v :: l, A, x => by simp only [runT23, List.length_cons, run_len l]
theorem take_one (A : List ShThing.T) (x : DrwT) (w : MsgT) : takeT23 false A x [w] = oneT23 false A x w := by
  rw [takeT23_cons]
  generalize oneT23 false A x w = z
  obtain ⟨z1, z2, z3⟩ := z
  by_cases h : z1 = 0
  · rw [if_pos h, takeT23_nil, h]
  · rw [if_neg h]

/-! ### The walk -/
set_option maxHeartbeats 1000000 in
theorem run23_spec (g : GH) (t : TossT) (okt : ShToss.ok t) (hP : t.player = 0 ∨ t.player = 1) (b : Int) (hb : b = 0 ∨ b = 1) {d0 : Nat} (s : Sl) (l : List MsgT) (hl : SlC g d0 ShMsg s l) (hsm : l.length ≤ 1000) (c1 c2 : Nat) {R : Value → Heap → Prop}
    (H : ∀ (p pm : Nat) (o : Sl) (g' : GH), Mv [] g g' → DrwC g' c1 p pm (runT23 [cnTh t.game t.player b t.nonce] (newT23 t.game t.player b t.nonce (numT ((0 : Nat) : Int))) l).2.2 → RdC 1 g' c2 o ((runT23 [cnTh t.game t.player b t.nonce] (newT23 t.game t.player b t.nonce (numT ((0 : Nat) : Int))) l).1.map (.int .i64)) → R (.tuple #[.pointer (some ⟨p, 0, none⟩), .slice o.a o.n o.c]) g'.h) :
    HC Try.prog F.law23_run #[.agg ⟨ShToss.enc t⟩, .int .i64 b, .slice s.a s.n s.c] R g.h := by
  refine law23_run.calls (l2 := s) ?_
  unfold law23_run.body
  have hgb := okTagB okt.1
  have hnb := okTagB okt.2.2.2.2.1
  have hl0 : ∀ q : GH, Mv [1, 2, 3, 4, 5, 6] g.base q → SlC q 0 ShMsg s l := fun q m => hl.arg m (by simp)
  have hn : s.n = l.length := hl.len
  have m := Mv.refl [1, 2, 3, 4, 5, 6] g.base
  refine new_C g.base 3 fun pt q1 m1 bt => ?_
  replace m := m.step m1 (by simp)
  have Tt := tossAt okt (blkCells bt)
  have te : ∀ u : List Int, (⟨ShTag.enc u⟩ : Array Value) = tagA u := fun u => by rw [encTag]
  simp only [fldK_some]
  refine loadTagAt (cellsTo Tt.game (by omega)) okt.1 ?_
  refine loadK_cells Tt.player t.player (j := 0) (k := .int .i64) rfl rfl ?_
  refine loadTagAt (cellsTo Tt.nonce (by omega)) okt.2.2.2.2.1 ?_
  refine makNew_spec q1 1 2 false ⟨none, 0, 0⟩ [] (RdC.nil _ _ 0 _ _) (by simp) (by simp) fun pm q2 m2 xm => ⟨_, rfl, ?_⟩
  replace m := m.step m2 (by simp)
  have Tt := tossAt okt (blkCells (bt.mv m2 (by simp)))
  refine ⟨loadTagAt (cellsTo Tt.nonce (by omega)) okt.2.2.2.2.1 rfl, stillK_cells Tt.player (j := 0) (k := .int .i64) rfl rfl, loadTagAt (cellsTo Tt.game (by omega)) okt.1 rfl, ?_⟩
  rw [te, te]
  have hc1 : coinT false [] t.game t.player b t.nonce = (numT ((0 : Nat) : Int), 0, [cnTh t.game t.player b t.nonce]) := coinT_tab [] hgb.1 hnb.1 hP hb
  refine drwNew_spec (by decide) xm t.game okt.1 t.player b (by omega) (by omega) t.nonce okt.2.2.2.2.1 4 (fun _ pa q3 m3 xm va => ⟨(_, _), rfl, ?_⟩) (fun h => absurd (by rw [hc1]) h)
  rw [hc1] at xm va
  replace m := m.step m3 (by simp)
  try dsimp only at xm va ⊢
  rw [if_neg (by simp)]
  refine loopW_rule (fun st h' => ∃ (i : Nat) (o : Sl) (q : GH), i ≤ l.length ∧ st = (o, (i : Int)) ∧ h' = q.h ∧ Mv [1, 2, 3, 4, 5, 6] g.base q ∧ OwnC T.api_Errno 1 q 5 o ((runT23 [cnTh t.game t.player b t.nonce] (newT23 t.game t.player b t.nonce (numT ((0 : Nat) : Int))) (l.take i)).1.map (.int .i64)) ∧
      MakC q 1 2 pm false [] (runT23 [cnTh t.game t.player b t.nonce] (newT23 t.game t.player b t.nonce (numT ((0 : Nat) : Int))) (l.take i)).2.1 ∧ DrwC q 4 pa pm (runT23 [cnTh t.game t.player b t.nonce] (newT23 t.game t.player b t.nonce (numT ((0 : Nat) : Int))) (l.take i)).2.2) (fun st => l.length - st.2.toNat)
    ⟨0, ⟨none, 0, 0⟩, q3, by omega, rfl, rfl, m, OwnC.nil _ _ _ _, xm, va⟩ ?_
  clear m xm va m1 m2 m3
  generalize [cnTh t.game t.player b t.nonce] = A0 at *
  generalize newT23 t.game t.player b t.nonce (numT ((0 : Nat) : Int)) = x0 at *
  rintro X _ _ ⟨i, o, q, hi, rfl, rfl, m, ho, xm, va⟩ hX
  try dsimp only
  by_cases hlt : i < l.length
  rotate_left
  · rw [if_neg (by simp; omega)]
    rw [List.take_of_length_le (by omega)] at ho xm va
    exact H pa pm o (g.via q fun k => if k = 4 then c1 else c2) (m.via (by simp) _) (by
      have := DrwC.mk (va.blk.via m (by decide) (fun k => if k = 4 then c1 else c2)) va.ok va.ph
      simpa using this) (by
      have := ho.rd.via m (by decide) (fun k => if k = 4 then c1 else c2)
      simpa using this)
  rw [if_pos (by simp; omega)]
  refine (hl0 q m).idxF rfl szF_Msg (by decide) hlt fun b1 o1 hcs ok hel => ?_
  refine loadMsgAt hcs ok ?_
  refine mkMsgs_C q 6 [l[i]] rfl (by simp) (by simp) (by simpa using ok) rfl fun s4 q4 m4 o4 => ?_
  replace m := m.step m4 (by simp)
  replace ho := ho.mv m4 (by simp)
  replace xm := xm.mv m4 (by simp) (by simp)
  replace va := va.mv m4 (by simp)
  refine drwTake_spec (by decide) (by decide) (by decide) (by decide) (by decide) va xm s4 _ (o4.slc rfl (by simp)) fun q5 m5 xm va => ⟨_, rfl, ?_⟩
  have hone := take_one (runT23 A0 x0 (l.take i)).2.1 (runT23 A0 x0 (l.take i)).2.2 l[i]
  rw [hone] at xm va ⊢
  replace m := m.step m5 (by simp)
  replace ho := ho.mv m5 (by simp)
  try dsimp only
  refine newSl_C q5 6 rfl fun s6 q6 m6 o6 hn6 hc6 => ?_
  replace m := m.step m6 (by simp)
  replace ho := ho.mv m6 (by simp)
  replace xm := xm.mv m6 (by simp) (by simp)
  replace va := va.mv m6 (by simp)
  have hon := ho.len
  rw [List.length_map, run_len, List.length_take] at hon
  refine append_C (e := T.api_Errno) (e2 := T.api_Errno) (sz := 1) (by_ := 8) (z := .int .i64 0) (by kernel_rfl) (by kernel_rfl) (by kernel_rfl) (by kernel_rfl) (by decide) ho o6.rd.rd (by simp [Value.oneCell']) (by omega) fun s7 q7 m7 o7 hs7 _ => ?_
  replace m := m.step m7 (by simp)
  replace xm := xm.mv m7 (by simp) (by simp)
  replace va := va.mv m7 (by simp)
  have hsn := run_snoc l[i] (l.take i) A0 x0
  rw [← List.take_succ_eq_append_getElem hlt] at hsn
  rw [wrapSucc (by omega)]
  exact hX _ _ ⟨i + 1, s7, q7, by omega, rfl, rfl, m, by rw [hsn, List.map_append]; exact o7, by rw [hsn]; exact xm, by rw [hsn]; exact va⟩ (by simp; omega)

set_option maxHeartbeats 4000000 in
theorem DrawFair_spec (g : GH) (t : TossT) (okt : ShToss.ok t) (s : Sl) (l : List MsgT) (hl : SlC g 0 ShMsg s l) {R : Value → Heap → Prop} (H : ∀ g' : GH, Mv [] g g' → R (.bool true) g'.h) :
    HC Try.prog F.law23_DrawFair #[.agg ⟨ShToss.enc t⟩, .slice s.a s.n s.c] R g.h := by
  refine law23_DrawFair.calls (l1 := s) ?_
  unfold law23_DrawFair.body
  have hn : s.n = l.length := hl.len
  have okl := (hl.rdF rfl).2
  have m := Mv.refl [3] g.base
  have fin : ∀ q : GH, Mv [3] g.base q → R (.bool true) q.h := fun q m => H (g.via q fun _ => 0) (m.via (by simp) _)
  have sl0 : ∀ q : GH, Mv [3] g.base q → SlC q 0 ShMsg s l := fun q m => hl.arg m (by simp)
  have lt : (⟨ShToss.enc t⟩ : Array Value).size = 99 := by show (ShToss.enc t).length = 99; exact Sh.enc_length (s := ShToss) rfl okt
  refine new_C g.base 3 fun pt q1 m1 bt => ?_
  replace m := m.step m1 (by simp)
  refine awake23_spec q1 fun q2 m2 => ⟨_, rfl, ?_⟩
  replace m := m.step m2 (by simp)
  replace bt := bt.mv m2 (by simp)
  try dsimp only
  rw [if_neg (by simp)]
  by_cases hbig : (s.n : Int) > 120
  · rw [if_pos (by simpa using hbig)]; exact fin q2 m
  rw [if_neg (by simpa using hbig)]
  have Tt := tossAt okt (blkCells bt)
  simp only [fldK_some]
  refine loadK_cells Tt.player t.player (j := 0) (k := .int .i64) rfl rfl ?_
  by_cases hp0 : t.player < 0
  · rw [if_pos (by simpa using hp0)]; exact fin q2 m
  rw [if_neg (by simpa using hp0)]
  refine loadK_cells Tt.player t.player (j := 0) (k := .int .i64) rfl rfl ?_
  by_cases hp1 : t.player > 1
  · rw [if_pos (by simpa using hp1)]; exact fin q2 m
  rw [if_neg (by simpa using hp1)]
  have hP : t.player = 0 ∨ t.player = 1 := by omega
  refine loadAgg_whole bt (by rw [szToss, lt]) ?_
  refine run23_spec q2 t okt hP 0 (.inl rfl) s l (sl0 q2 m) (by omega) 4 5 fun pa pma oa q3 m3 va ra => ⟨(_, _), rfl, ?_⟩
  replace m := m.step m3 (by simp)
  replace bt := bt.mv m3 (by simp)
  refine loadAgg_whole bt (by rw [szToss, lt]) ?_
  refine run23_spec q3 t okt hP 1 (.inr rfl) s l (sl0 q3 m) (by omega) 6 7 fun pb pmb ob q4 m4 vb rb => ⟨(_, _), rfl, ?_⟩
  replace m := m.step m4 (by simp)
  replace va := va.mv m4 (by simp)
  replace ra := ra.mv m4 (by simp)
  obtain ⟨r1, r2, r3, r4, r5, r6⟩ := run_fair (okTagB okt.1) (okTagB okt.2.2.2.2.1) hP l [cnTh t.game t.player 0 t.nonce] [cnTh t.game t.player 1 t.nonce] (newT23 t.game t.player 0 t.nonce (numT ((0 : Nat) : Int))) (newT23 t.game t.player 1 t.nonce (numT ((0 : Nat) : Int))) okl ⟨[], rfl, rfl⟩ rfl rfl rfl (.inl rfl)
  have hlen := run_len l [cnTh t.game t.player 0 t.nonce] (newT23 t.game t.player 0 t.nonce (numT ((0 : Nat) : Int)))
  rw [← r1] at rb
  generalize hx : runT23 [cnTh t.game t.player 0 t.nonce] (newT23 t.game t.player 0 t.nonce (numT ((0 : Nat) : Int))) l = x at *
  generalize hy : runT23 [cnTh t.game t.player 1 t.nonce] (newT23 t.game t.player 1 t.nonce (numT ((0 : Nat) : Int))) l = y at *
  clear hx hy r1
  obtain ⟨x1, x2, x3⟩ := x
  obtain ⟨y1, y2, y3⟩ := y
  simp only at va ra vb rb r2 r3 r4 r5 r6 hlen
  have r4' : x3.bit = 0 := r4
  have r5' : y3.bit = 1 := r5
  have r2' : y3 = (x3.game, x3.player, y3.bit, x3.nonce, x3.tag, x3.theirs, x3.toss, x3.given, x3.phase, ()) := r2
  have ph : y3.phase = x3.phase := (congrArg (fun z => DrwT.phase z) r2' : DrwT.phase y3 = DrwT.phase (x3.game, x3.player, y3.bit, x3.nonce, x3.tag, x3.theirs, x3.toss, x3.given, x3.phase, ()))
  have pl : y3.player = x3.player := (congrArg (fun z => DrwT.player z) r2' : DrwT.player y3 = DrwT.player (x3.game, x3.player, y3.bit, x3.nonce, x3.tag, x3.theirs, x3.toss, x3.given, x3.phase, ()))
  have ts : y3.toss = x3.toss := (congrArg (fun z => DrwT.toss z) r2' : DrwT.toss y3 = DrwT.toss (x3.game, x3.player, y3.bit, x3.nonce, x3.tag, x3.theirs, x3.toss, x3.given, x3.phase, ()))
  try dsimp only
  rw [if_neg (by simp), if_neg (by simp)]
  refine drwPhase_spec va ⟨_, rfl, ?_⟩
  refine drwPhase_spec vb ⟨_, rfl, ?_⟩
  try dsimp only
  have la := ra.len
  have lb := rb.len
  rw [List.length_map] at la lb
  rw [if_neg (by simp [ph]), if_neg (by simp; omega)]
  refine loopW_rule (fun st h' => ∃ i : Nat, i ≤ l.length ∧ st = (i : Int) ∧ h' = q4.h) (fun st => l.length - st.toNat) ⟨0, by omega, rfl, rfl⟩ ?_
  rintro X _ _ ⟨i, hi, rfl, rfl⟩ hX
  try dsimp only
  by_cases hlt : i < l.length
  · rw [if_pos (by simp; omega)]
    have hx1 : i < x1.length := by omega
    have hxe : (x1.map (Value.int .i64))[((i : Int)).toNat]? = some (Kd.inj (.int .i64) x1[i]) := by simp [hx1]; rfl
    refine idxLoad_C ra (by kernel_rfl) (by omega) x1[i] hxe ?_
    refine idxLoad_C rb (by kernel_rfl) (by omega) x1[i] hxe ?_
    rw [if_neg (by simp), wrapSucc (by omega)]
    exact hX _ _ ⟨i + 1, by omega, rfl, rfl⟩ (by simp; omega)
  rw [if_neg (by simp; omega)]
  have ex : ∀ n : Int, (n = 0 ∨ n = 1) → xorT 0 n = n ∧ xorT 1 n = 1 - n := by
    rintro n (rfl | rfl) <;> decide
  obtain ⟨e0, e1⟩ := ex _ r6
  have w1 : whiteT x3 = if ¬ x3.phase = 3 then (0, false) else (x3.toss, true) := by unfold whiteT; rw [r4', e0]
  have w2 : whiteT y3 = if ¬ x3.phase = 3 then (0, false) else (1 - x3.toss, true) := by unfold whiteT; rw [r5', ph, ts, e1]
  have s1 : sideT x3 = if ¬ x3.phase = 3 then (0, false) else (if ¬ x3.toss = x3.player then 1 else 0, true) := by
    unfold sideT; rw [w1]
    by_cases h : x3.phase = 3
    · simp [h]
    · simp [h]
  have s2 : sideT y3 = if ¬ x3.phase = 3 then (0, false) else (if ¬ 1 - x3.toss = x3.player then 1 else 0, true) := by
    unfold sideT; rw [w2, pl]
    by_cases h : x3.phase = 3
    · simp [h]
    · simp [h]
  refine drwWhite_spec va ?_
  rw [w1]
  by_cases h3 : x3.phase = 3
  · rw [if_neg (by simpa using h3)] at w1 w2 s1 s2 ⊢
    refine ⟨(x3.toss, true), rfl, ?_⟩
    refine drwWhite_spec vb ?_
    rw [w2]
    refine ⟨(1 - x3.toss, true), rfl, ?_⟩
    refine drwSide_spec va ?_
    rw [s1]
    refine ⟨(if ¬ x3.toss = x3.player then 1 else 0, true), rfl, ?_⟩
    refine drwSide_spec vb ?_
    rw [s2]
    refine ⟨(if ¬ 1 - x3.toss = x3.player then 1 else 0, true), rfl, ?_⟩
    refine drwPhase_spec va ⟨_, rfl, ?_⟩
    try dsimp only
    rw [if_neg (by simpa using h3), if_pos rfl, if_pos rfl, if_pos rfl, if_pos rfl]
    have hpl : x3.player = 0 ∨ x3.player = 1 := by rw [r3]; exact hP
    rw [if_pos (by rcases r6 with h | h <;> rw [show x3.toss = _ from h] <;> decide)]
    have : ((if ¬ x3.toss = x3.player then (1 : Int) else 0) != (if ¬ 1 - x3.toss = x3.player then (1 : Int) else 0)) = true := by
      rcases r6 with h | h <;> rcases hpl with h' | h' <;> rw [show x3.toss = _ from h, show x3.player = _ from h'] <;> decide
    rw [this]
    exact fin q4 m
  · rw [if_pos (by simpa using h3)] at w1 w2 s1 s2 ⊢
    refine ⟨(0, false), rfl, ?_⟩
    refine drwWhite_spec vb ?_
    rw [w2]
    refine ⟨(0, false), rfl, ?_⟩
    refine drwSide_spec va ?_
    rw [s1]
    refine ⟨(0, false), rfl, ?_⟩
    refine drwSide_spec vb ?_
    rw [s2]
    refine ⟨(0, false), rfl, ?_⟩
    refine drwPhase_spec va ⟨_, rfl, ?_⟩
    try dsimp only
    rw [if_pos (by simpa using h3), if_pos (by rfl), if_pos (by rfl), if_pos (by rfl)]
    exact fin q4 m

theorem DrawFair_walk {h : Heap} (ct : Array Value) (t : TossT) (w1 : Lay h ShToss t ct.toList) (a : Option Addr) (la ca : Nat) (x : List MsgT) (w2 : Lay h (.sl ShMsg) x [.slice a la ca]) :
    HC Try.prog F.law23_DrawFair #[.agg ct, .slice a la ca] (fun v h' => v = .bool true ∧ Ext h h') h := by
  obtain ⟨ct⟩ := ct
  obtain ⟨rfl, ok1⟩ := LayC.enc (s := ShToss) rfl (w1.arg (Mv.refl [] ⟨h, fun _ => 0⟩) (by simp))
  exact DrawFair_spec ⟨h, fun _ => 0⟩ t ok1 ⟨a, la, ca⟩ x (w2.arg (Mv.refl [] _) (by simp)) fun g' m => ⟨rfl, m.ext (by simp)⟩

end Go.Proofs.Ytgllngcoclnpeaa
