/-
  The statement ForkParts.
-/
import Derived.Test.YtgggpnjjkcfckaaGreatKWhole21
import Derived.Test.YtgggpnjjkcfckaaGreatKLinks
set_option linter.unusedSimpArgs false
set_option linter.unusedVariables false
namespace Go.Proofs.YtgggpnjjkcfckaaGreat
open Go Go.Ev

/-! ### Two chains of one table, of one game -/

section
variable {A : List ShThing.T} {game : List Int} {xs ys : List EntryT} {xl yl : List (List Int)}

/-- Tags are the same just if the entries are. -/
theorem tag_iff (hA : A.length ≤ 1000000) (x : Good A game xs xl) (y : Good A game ys yl) {j : Nat} (hx : j < xs.length) (hy : j < ys.length) : xl[j]? = yl[j]? ↔ xs[j] = ys[j] := by
  have e1 : xs[j]? = some xs[j] := List.getElem?_eq_getElem hx
  have e2 : ys[j]? = some ys[j] := List.getElem?_eq_getElem hy
  obtain ⟨k, h1, h2⟩ := x.link j _ e1
  obtain ⟨k', h1', h2'⟩ := y.link j _ e2
  rw [h2, h2']
  constructor
  · intro h
    have hk := numT_inj (by have := idxIn_lt h1; omega) (by have := idxIn_lt h1'; omega) (Option.some.inj h)
    subst hk
    exact thE_inj (x.ok _ (List.getElem_mem hx)) (y.ok _ (List.getElem_mem hy)) (x.right _ (List.getElem_mem hx)) (y.right _ (List.getElem_mem hy)) (idxIn_eq h1 h1')
  · intro h
    rw [h, h1'] at h1
    rw [Option.some.inj h1]

theorem ahead_iff (hA : A.length ≤ 1000000) (x : Good A game xs xl) (y : Good A game ys yl) {j : Nat} (hx : j + 1 < xs.length) (hy : j + 1 < ys.length) : xs[j + 1].ahead = ys[j + 1].ahead ↔ xs[j] = ys[j] := by
  have n1 := x.next j _ (List.getElem?_eq_getElem hx)
  have n2 := y.next j _ (List.getElem?_eq_getElem hy)
  rw [← tag_iff hA x y (j := j) (by omega) (by omega), n1, n2]
  constructor
  · intro h; rw [h]
  · intro h; exact Option.some.inj h

/-- Where they part, both have the same tag ahead. -/
theorem part_ahead (hA : A.length ≤ 1000000) (x : Good A game xs xl) (y : Good A game ys yl) {i : Nat} (hx : i < xs.length) (hy : i < ys.length) (ht : xs.take i = ys.take i) : xs[i].ahead = ys[i].ahead := by
  cases i with
  | zero =>
    obtain ⟨k, h1, h2⟩ := x.root _ (List.getElem?_eq_getElem hx)
    obtain ⟨k', h1', h2'⟩ := y.root _ (List.getElem?_eq_getElem hy)
    rw [h1] at h1'
    rw [h2, h2', Option.some.inj h1']
  | succ j =>
    refine (ahead_iff hA x y hx hy).2 ?_
    have h1 : (xs.take (j + 1))[j]? = (ys.take (j + 1))[j]? := by rw [ht]
    rw [List.getElem?_take_of_lt (by omega), List.getElem?_take_of_lt (by omega), List.getElem?_eq_getElem (by omega), List.getElem?_eq_getElem (by omega)] at h1
    exact Option.some.inj h1
/-- .. and unlike bodies. -/
theorem part_what (hA : A.length ≤ 1000000) (x : Good A game xs xl) (y : Good A game ys yl) {i : Nat} (hx : i < xs.length) (hy : i < ys.length) (ht : xs.take i = ys.take i) (hne : xs[i] ≠ ys[i]) : xs[i].what ≠ ys[i].what := by
  intro hw
  apply hne
  have h1 := part_ahead hA x y hx hy ht
  have h2 := x.num i _ (List.getElem?_eq_getElem hx)
  have h3 := y.num i _ (List.getElem?_eq_getElem hy)
  have h4 := x.same _ (List.getElem_mem hx)
  have h5 := y.same _ (List.getElem_mem hy)
  generalize xs[i] = a at *
  generalize ys[i] = b at *
  obtain ⟨a1, a2, a3, a4, a5⟩ := a
  obtain ⟨b1, b2, b3, b4, b5⟩ := b
  simp only [EntryT.ahead, EntryT.what, EntryT.game, EntryT.number] at *
  subst h1 hw h4 h5 h2 h3
  rfl
/-- Behind it no two have the same tag ahead. -/
theorem part_behind (hA : A.length ≤ 1000000) (x : Good A game xs xl) (y : Good A game ys yl) {i : Nat} (hx : i < xs.length) (hy : i < ys.length) (hne : xs[i] ≠ ys[i]) : ∀ (d : Nat) (h1 : i + d + 1 < xs.length) (h2 : i + d + 1 < ys.length), xs[i + d + 1].ahead ≠ ys[i + d + 1].ahead
  | 0, h1, h2 => fun h => hne ((ahead_iff hA x y h1 h2).1 h)
  | d + 1, h1, h2 => fun h => by
    have := (ahead_iff hA x y h1 h2).1 h
    refine part_behind hA x y hx hy hne d (by omega) (by omega) ?_
    have e : i + (d + 1) = i + d + 1 := by omega
    simp only [e] at this
    rw [this]
end

theorem add_again {A : List ShThing.T} {game : List Int} {es : List EntryT} {ls : List (List Int)} (h : Good A game es ls) : addT false game (A, [], []) es = (0, A, es, ls) := by
  have key : ∀ (n i : Nat), i + n = es.length → addT false game (A, es.take i, ls.take i) (es.drop i) = (0, A, es, ls) := by
    intro n
    induction n with
    | zero =>
      intro i hi
      have hl := h.len
      rw [List.drop_of_length_le (by omega), List.take_of_length_le (by omega), List.take_of_length_le (by omega), addT]
    | succ n ih =>
      intro i hi
      have hlt : i < es.length := by omega
      have h1 := again_good h hlt
      rw [addOne] at h1
      rw [List.drop_eq_getElem_cons hlt, addT]
      by_cases hw : (whyS false game (A, es.take i, ls.take i) es[i]).1 = 0
      · rw [if_pos hw] at h1 ⊢
        rw [(Prod.mk.inj h1).2]
        exact ih (i + 1) (by omega)
      · rw [if_neg hw] at h1
        exact absurd (Prod.mk.inj h1).1 hw
  have := key es.length 0 (by omega)
  simpa using this

theorem compare_turn {xs ys : List EntryT} : (compareT ys xs).2 = (compareT xs ys).2 ∧
    (compareT xs ys = (4, partAt xs ys) ∧ compareT ys xs = (4, partAt xs ys) ∧ partAt xs ys < min xs.length ys.length ∨
     partAt xs ys = min xs.length ys.length ∧ (compareT xs ys).2 = partAt xs ys ∧ (xs.length = ys.length ∧ (compareT xs ys).1 = 1 ∧ (compareT ys xs).1 = 1 ∨ xs.length < ys.length ∧ (compareT xs ys).1 = 2 ∧ (compareT ys xs).1 = 3 ∨ ys.length < xs.length ∧ (compareT xs ys).1 = 3 ∧ (compareT ys xs).1 = 2)) := by
  have hs : partAt ys xs = partAt xs ys := partAt_eq (partAt_take xs ys).symm (by have := partAt_le xs ys; omega) fun h => (partAt_ne xs ys (by omega)).symm
  have hle := partAt_le xs ys
  unfold compareT
  rw [hs]
  by_cases h4 : partAt xs ys < min xs.length ys.length
  · have h4' : partAt xs ys < min ys.length xs.length := by omega
    rw [if_pos h4, if_pos h4']
    exact ⟨rfl, .inl ⟨rfl, rfl, h4⟩⟩
  · have h4' : ¬ partAt xs ys < min ys.length xs.length := by omega
    rw [if_neg h4, if_neg h4']
    rcases Nat.lt_trichotomy xs.length ys.length with h | h | h
    · rw [if_pos h, if_neg (by omega), if_pos h]
      exact ⟨rfl, .inr ⟨by omega, rfl, .inr (.inl ⟨h, rfl, rfl⟩)⟩⟩
    · rw [if_neg (by omega), if_neg (by omega), if_neg (by omega), if_neg (by omega)]
      exact ⟨rfl, .inr ⟨by omega, rfl, .inl ⟨h, rfl, rfl⟩⟩⟩
    · have hx : ¬ xs.length < ys.length := by omega
      simp only [if_neg hx, if_pos h]
      exact ⟨trivial, .inr ⟨by omega, trivial, .inr (.inr ⟨h, trivial, trivial⟩)⟩⟩

/-! ### A row of bodies, by a maker -/

set_option maxHeartbeats 1000000 in
theorem grown21_spec {g : GH} {c k d pm : Nat} (co : Nat) (hck : ¬ c = k) (hd1 : ¬ d = k) {real : Bool} {seed : List Int} {asked : List ShThing.T} (mk : MakC g c k pm real seed asked) (game : List Int) (hg : ShTag.ok game) (v : Sl) (l : List BodyT) (hv : SlC g d ShBody v l) (hl : l.length ≤ 1000)
    {R : Value → Heap → Prop} (H : ∀ (s : Sl) (g' : GH), Mv [k] g g' → MakC g' c k pm real seed (grownT real game (asked, [], []) l).1 → OwnF T.api_Entry ShEntry g' co s (grownT real game (asked, [], []) l).2.1 → R (.slice s.a s.n s.c) g'.h) : HC Tryz.prog F.law21_grown #[.pointer (some ⟨pm, 0, none⟩), .agg ⟨ShTag.enc game⟩, .slice v.a v.n v.c] R g.h := by
  refine law21_grown.calls (l2 := v) ?_
  unfold law21_grown.body
  obtain ⟨y, hy, hyn⟩ := fresh_exists g [c, k, d, co]
  obtain ⟨kc, hkc, hkcn⟩ := fresh_exists g [c, k, d, co, y]
  obtain ⟨ke, hke, hken⟩ := fresh_exists g [c, k, d, co, y, kc]
  obtain ⟨kl, hkl, hkln⟩ := fresh_exists g [c, k, d, co, y, kc, ke]
  obtain ⟨z, hz, hzn⟩ := fresh_exists g [c, k, d, co, y, kc, ke, kl]
  simp only [List.mem_cons, List.mem_nil_iff, or_false, not_or] at hyn hkcn hken hkln hzn
  obtain ⟨y1, y2, y3, y4⟩ := hyn
  obtain ⟨a1, a2, a3, a4, a5⟩ := hkcn
  obtain ⟨b1, b2, b3, b4, b5, b6⟩ := hken
  obtain ⟨c1, c2, c3, c4, c5, c6, c7⟩ := hkln
  obtain ⟨z1, z2, z3, z4, z5, z6, z7, z8⟩ := hzn
  have D : Dis c k kc ke kl := ⟨hck, Ne.symm a1, Ne.symm b1, Ne.symm c1, Ne.symm a2, Ne.symm b2, Ne.symm c2, Ne.symm b6, Ne.symm c6, Ne.symm c7⟩
  have hn := hv.len
  have m : Mv [k, kc, ke, kl, y, z] g g := Mv.refl _ _
  refine new_C g y fun pg q1 m1 bg => ?_
  replace m := m.step m1 (by simp)
  replace mk := mk.mv m1 (by simp) (by simp)
  refine loadTagAt (blkCells bg) hg ?_
  refine chainNew_spec kc ke kl mk game hg fun p q2 m2 ch => ⟨(_, _), rfl, ?_⟩
  replace m := m.step m2 (by simp)
  have x : CM q2 c k kc ke kl p pm real seed game (asked, [], []) := ⟨mk.mv m2 (by simp) (by simp), ch⟩
  dsimp only
  refine loopW_rule (fun s h' => ∃ (i : Nat) (st : ChSt) (q : GH), i ≤ l.length ∧ s = (i : Int) ∧ h' = q.h ∧ Mv [k, kc, ke, kl, y, z] g q ∧ CM q c k kc ke kl p pm real seed game st ∧ st.2.1.length ≤ i ∧ grownT real game (asked, [], []) l = grownT real game st (l.drop i)) (fun s => l.length - s.toNat)
    ⟨0, (asked, [], []), q2, by omega, rfl, rfl, m, x, by simp, by simp⟩ ?_
  clear m m1 m2 x ch mk bg
  rintro X _ _ ⟨i, st, q, hi, rfl, rfl, m, x, hlen, hadd⟩ hX
  try dsimp only
  by_cases hlt : i < l.length
  · rw [if_pos (by first | omega | (simp [hn]; omega))]
    have hdrop : l.drop i = l[i] :: l.drop (i + 1) := List.drop_eq_getElem_cons hlt
    rw [hdrop, grownT] at hadd
    have hv1 := hv.mv m (by simp [hd1, Ne.symm a3, Ne.symm b3, Ne.symm c3, Ne.symm y3, Ne.symm z3])
    refine hv1.idxF rfl szBody (by decide) hlt fun b1 o1 c1 okb l1 => loadF c1 szBody (by decide) l1 ?_
    refine chnNext_spec D x (by omega) l[i] okb fun q1 m1 x1 oke => ⟨(_, _), rfl, ?_⟩
    replace m := m.step m1 (by simp)
    rw [zEntry]
    refine newStore_C q1 y (by rw [szEntry]; exact lenEntry oke) (by rw [szEntry, List.size_toArray, lenEntry okEntry0]) (fun v hv => Sh.enc_one (s := ShEntry) rfl v hv) fun pe q2 m2 be => ?_
    replace m := m.step m2 (by simp)
    replace x1 := x1.mv m2 (by simp) (by simp) (by simp) (by simp) (by simp)
    try dsimp only
    by_cases hw : (nextT real game st l[i]).1 = 0
    · rw [if_pos (by simpa using hw)]
      rw [if_pos hw] at hadd
      refine loadEntryAt (blkCells be) oke ?_
      refine mkEntry_C q2 y oke fun s3 q3 m3 o3 hc3 => ?_
      replace m := m.step m3 (by simp)
      replace x1 := x1.mv m3 (by simp) (by simp) (by simp) (by simp) (by simp)
      refine add_spec D (d := y) y2 (Ne.symm a5) (Ne.symm b5) (Ne.symm c5) x1 s3 [(nextT real game st l[i]).2.1] (o3.slc rfl (by simp)) (by simp only [List.length_cons, List.length_nil]; omega) fun q4 m4 x4 => ⟨_, rfl, ?_⟩
      replace m := m.step m4 (by simp)
      have h2 := addT_len real game [(nextT real game st l[i]).2.1] ((nextT real game st l[i]).2.2, st.2)
      simp only [List.length_cons, List.length_nil] at h2
      rw [wrapSucc (by omega)]
      exact hX _ _ ⟨i + 1, _, q4, by omega, rfl, rfl, m, x4, by omega, hadd⟩ (by simp; omega)
    · rw [if_neg (by simpa using hw), wrapSucc (by omega)]
      rw [if_neg hw] at hadd
      exact hX _ _ ⟨i + 1, _, q2, by omega, rfl, rfl, m, x1, by show st.2.1.length ≤ _; omega, hadd⟩ (by simp; omega)
  · rw [if_neg (by first | omega | (simp [hn]; omega))]
    have hi' : i = l.length := by omega
    subst hi'
    rw [List.drop_length, grownT] at hadd
    refine chnEntries_spec x.ch (by omega) z fun s3 q3 m3 o3 => ⟨_, rfl, ?_⟩
    replace m := m.step m3 (by simp)
    have hre : ∀ j ∈ [k, kc, ke, kl, y, z], j ∈ [k] ∨ Fresh g j := by
      intro j hj
      simp only [List.mem_cons, List.mem_nil_iff, or_false] at hj
      rcases hj with rfl | rfl | rfl | rfl | rfl | rfl
      · exact .inl (by simp)
      · exact .inr hkc
      · exact .inr hke
      · exact .inr hkl
      · exact .inr hy
      · exact .inr hz
    have mk3 := x.ma.mv m3 (by simp) (by simp)
    have hmk := mk3.re (φ := reOne z co) m (.inl (reOne_ne (Ne.symm z1))) (.inl (reOne_ne (Ne.symm z2)))
    rw [reOne_ne (Ne.symm z1), reOne_ne (Ne.symm z2)] at hmk
    have ho := o3.re (φ := reOne z co) m (.inr hz)
    rw [reOne_self] at ho
    exact H s3 (g.via q3 (reOne z co)) (m.re _ hre) (by rw [hadd]; exact hmk) (by rw [hadd]; exact ho)

set_option maxHeartbeats 4000000 in
theorem ForkParts_spec (g : GH) {c d : Nat} (game : List Int) (hg : ShTag.ok game) (va : Sl) (al : List BodyT) (ha : SlC g c ShBody va al) (vb : Sl) (bl : List BodyT) (hb : SlC g d ShBody vb bl) {R : Value → Heap → Prop}
    (H : ∀ g' : GH, Mv [] g g' → R (.bool true) g'.h) : HC Tryz.prog F.law21_ForkParts #[.agg ⟨ShTag.enc game⟩, .slice va.a va.n va.c, .slice vb.a vb.n vb.c] R g.h := by
  refine law21_ForkParts.calls (a1 := va) (b2 := vb) ?_
  unfold law21_ForkParts.body
  have m := Mv.refl [1, 2, 3] g.base
  have fin : ∀ q : GH, Mv [1, 2, 3] g.base q → R (.bool true) q.h := fun q m => H (g.via q fun _ => 0) (m.via (by simp) _)
  have hna := ha.len
  have hnb := hb.len
  have hs1 := ha.small
  have hs2 := hb.small
  refine new_C g.base 1 fun pg q1 m1 bg => ?_
  replace m := m.step m1 (by simp)
  refine awake21_spec q1 fun q2 m2 => ⟨_, rfl, ?_⟩
  replace m := m.step m2 (by simp)
  replace bg := bg.mv m2 (by simp)
  dsimp only
  rw [if_neg (by simp)]
  rw [show IntKind.i64.wrap ((va.n : Int) + (vb.n : Int)) = ((va.n + vb.n : Nat) : Int) from by rw [wrapI64 (by omega) (by omega)]; omega]
  by_cases hgt : va.n + vb.n > 200
  · rw [if_pos (by simp; omega)]
    exact fin q2 m
  rw [if_neg (by simp; omega)]
  refine makNew_spec q2 2 3 false ⟨none, 0, 0⟩ [] (RdC.nil _ _ 0 _ _) (by simp) (by simp) fun pm q3 m3 mk => ⟨_, rfl, ?_⟩
  replace m := m.step m3 (by simp)
  replace bg := bg.mv m3 (by simp)
  refine loadTagAt (blkCells bg) hg ?_
  refine loadTagAt (blkCells bg) hg ?_
  refine grown21_spec 1 (by decide) (by decide) mk game hg va al (ha.arg m (by simp) : SlC q3 0 ShBody va al) (by omega) fun s4 q4 m4 mk ox => ⟨_, rfl, ?_⟩
  replace m := m.step m4 (by simp)
  replace bg := bg.mv m4 (by simp)
  refine ⟨stillF (s := ShTag) (blkCells bg) szTag (by decide) (lenTag hg), ?_⟩
  obtain ⟨st1, hst1⟩ : ∃ st, st = grownT false game ([], [], []) al := ⟨_, rfl⟩
  have hba := (ha.rdF rfl).2
  have hbb := (hb.rdF rfl).2
  have g1 := grown_good hg al ([], [], []) (Good.nil _ _) hba (by simp; omega)
  rw [← hst1] at g1 mk ox
  refine grown21_spec 1 (by decide) (by decide) mk game hg vb bl (hb.arg m (by simp) : SlC q4 0 ShBody vb bl) (by omega) fun s5 q5 m5 mk oy => ⟨_, rfl, ?_⟩
  replace m := m.step m5 (by simp)
  replace bg := bg.mv m5 (by simp)
  replace ox := ox.mv m5 (by simp)
  obtain ⟨st2, hst2⟩ : ∃ st, st = grownT false game (st1.1, [], []) bl := ⟨_, rfl⟩
  have g2 := grown_good hg bl (st1.1, [], []) (Good.nil _ _) hbb (by simp; omega)
  rw [← hst2] at g2 mk oy
  have lx : st1.2.1.length ≤ al.length := by have := grownT_len false game al ([], [], []); rw [← hst1] at this; simpa using this
  have ly : st2.2.1.length ≤ bl.length := by have := grownT_len false game bl (st1.1, [], []); rw [← hst2] at this; simpa using this
  have hA : st2.1.length ≤ 1000000 := by
    have h1 := g1.2.2
    have h2 := g2.2.2
    simp only [List.length_nil] at h1
    dsimp only at h2
    omega
  have gy := g2.1
  have gx := g1.1.since g2.2.1
  obtain ⟨A, hAe⟩ : ∃ A, A = st2.1 := ⟨_, rfl⟩
  obtain ⟨xs, hxs⟩ : ∃ xs, xs = st1.2.1 := ⟨_, rfl⟩
  obtain ⟨ys, hys⟩ : ∃ ys, ys = st2.2.1 := ⟨_, rfl⟩
  rw [← hAe] at gx gy mk hA
  rw [← hxs] at gx ox lx
  rw [← hys] at gy oy ly
  have hnx := ox.len
  have hny := oy.len
  have sx := ox.slc rfl (by omega)
  have sy := oy.slc rfl (by omega)
  dsimp only
  refine compare_spec sx sy fun q6 m6 => ⟨((compareT xs ys).1, ((compareT xs ys).2 : Int)), rfl, ?_⟩
  replace m := m.step m6 (by simp)
  replace bg := bg.mv m6 (by simp)
  replace ox := ox.mv m6 (by simp)
  replace oy := oy.mv m6 (by simp)
  replace sx := sx.mv m6 (by simp)
  replace sy := sy.mv m6 (by simp)
  replace mk := mk.mv m6 (by simp) (by simp)
  refine compare_spec sy sx fun q7 m7 => ⟨((compareT ys xs).1, ((compareT ys xs).2 : Int)), rfl, ?_⟩
  replace m := m.step m7 (by simp)
  replace bg := bg.mv m7 (by simp)
  replace ox := ox.mv m7 (by simp)
  replace oy := oy.mv m7 (by simp)
  replace sx := sx.mv m7 (by simp)
  replace sy := sy.mv m7 (by simp)
  replace mk := mk.mv m7 (by simp) (by simp)
  refine loadTagAt (blkCells bg) hg ?_
  refine wholeAny_spec (by decide) (by decide) mk game hg s4 xs sx (by omega) fun q8 m8 mk8 => ⟨(_, _), rfl, ?_⟩
  replace m := m.step m8 (by simp)
  replace ox := ox.mv m8 (by simp)
  replace oy := oy.mv m8 (by simp)
  replace sx := sx.mv m8 (by simp)
  replace sy := sy.mv m8 (by simp)
  rw [add_again gx]
  dsimp only
  rw [if_neg (by simp), if_neg (by simp [hnx])]
  have hct := compare_turn (xs := xs) (ys := ys)
  have hle := partAt_le xs ys
  have hc2 : (compareT xs ys).2 = partAt xs ys := by
    rcases hct.2 with ⟨h, _⟩ | ⟨_, h, _⟩
    · rw [h]
    · exact h
  have hmin : (if (s5.n : Int) < (s4.n : Int) then (s5.n : Int) else (s4.n : Int)) = ((min xs.length ys.length : Nat) : Int) := by
    rw [hnx, hny]; split <;> omega
  rw [hct.1, hc2, hmin]
  rw [if_neg (by simp), if_neg (by simp; omega)]
  have hcx := ox.cap
  have hcy := oy.cap
  refine slice_to (n := partAt xs ys) ox.plain rfl (by omega) ?_
  refine slice_to (n := partAt xs ys) oy.plain rfl (by omega) ?_
  have tx := (ox.take rfl (n := partAt xs ys) (k := s4.c) (by omega) (by omega) (Nat.le_refl _)).slc rfl (by simp; omega)
  have ty := (oy.take rfl (n := partAt xs ys) (k := s5.c) (by omega) (by omega) (Nat.le_refl _)).slc rfl (by simp; omega)
  refine ⟨true, SameEntries_spec ⟨s4.a, partAt xs ys, s4.c⟩ ⟨s5.a, partAt xs ys, s5.c⟩ _ _ tx ty ⟨?_, rfl⟩, ?_⟩
  · rw [decide_eq_true (partAt_take xs ys)]; rfl
  dsimp only
  rw [if_neg (by simp)]
  rcases hct.2 with ⟨h1, h2, hlt⟩ | ⟨hp, -, hcase⟩
  · -- they part
    rw [h1, h2]
    dsimp only
    rw [if_neg (by simp), if_neg (by simp), if_neg (by simp; omega)]
    have hix : partAt xs ys < xs.length := by omega
    have hiy : partAt xs ys < ys.length := by omega
    have hne : xs[partAt xs ys] ≠ ys[partAt xs ys] := by
      have := partAt_ne xs ys hlt
      rw [List.getElem?_eq_getElem hix, List.getElem?_eq_getElem hiy] at this
      exact fun e => this (by rw [e])
    have hah := part_ahead hA gx gy hix hiy (partAt_take xs ys)
    have hwh := part_what hA gx gy hix hiy (partAt_take xs ys) hne
    have okx := gx.ok _ (List.getElem_mem hix)
    have oky := gy.ok _ (List.getElem_mem hiy)
    refine sx.idxF rfl szF_Entry (by decide) hix fun b1 o1 c1 ok1 l1 => ?_
    rw [fldK_some]
    refine loadTagAt (entryAt ok1 c1).ahead ok1.2.2.1 ?_
    refine sy.idxF rfl szF_Entry (by decide) hiy fun b2 o2 c2 ok2 l2 => ?_
    rw [fldK_some]
    refine loadTagAt (entryAt ok2 c2).ahead ok2.2.2.1 ?_
    refine neqTag_F ok1.2.2.1 ok2.2.2.1 ?_
    rw [if_neg (by simpa using hah)]
    refine sx.idxF rfl szF_Entry (by decide) hix fun b3 o3 c3 ok3 l3 => ?_
    rw [fldK_some]
    refine loadBodyAt (entryAt ok3 c3).what ok3.2.2.2.1 ?_
    refine sy.idxF rfl szF_Entry (by decide) hiy fun b4 o4 c4 ok4 l4 => ?_
    rw [fldK_some]
    refine loadBodyAt (entryAt ok4 c4).what ok4.2.2.2.1 ?_
    refine eqBody_F ok3.2.2.2.1 ok4.2.2.2.1 ?_
    rw [if_neg (by simpa using hwh), wrapSucc (by omega)]
    refine loopW_rule (fun st h' => ∃ i : Nat, partAt xs ys < i ∧ i ≤ min xs.length ys.length ∧ st = (i : Int) ∧ h' = q8.h) (fun st => min xs.length ys.length - st.toNat) ⟨partAt xs ys + 1, by omega, by omega, rfl, rfl⟩ ?_
    rintro X _ _ ⟨i, hi0, hi, rfl, rfl⟩ hX
    by_cases hlt2 : i < min xs.length ys.length
    · rw [if_pos (by simpa using hlt2)]
      have hjx : i < xs.length := by omega
      have hjy : i < ys.length := by omega
      obtain ⟨e, he⟩ : ∃ e, i = partAt xs ys + e + 1 := ⟨i - partAt xs ys - 1, by omega⟩
      subst he
      have hbh := part_behind hA gx gy hix hiy hne e hjx hjy
      refine sx.idxF rfl szF_Entry (by decide) hjx fun b5 o5 c5 ok5 l5 => ?_
      rw [fldK_some]
      refine loadTagAt (entryAt ok5 c5).ahead ok5.2.2.1 ?_
      refine sy.idxF rfl szF_Entry (by decide) hjy fun b6 o6 c6 ok6 l6 => ?_
      rw [fldK_some]
      refine loadTagAt (entryAt ok6 c6).ahead ok6.2.2.1 ?_
      refine eqTag_F ok5.2.2.1 ok6.2.2.1 ?_
      rw [if_neg (by simpa using hbh), wrapSucc (by omega)]
      exact hX _ _ ⟨partAt xs ys + e + 1 + 1, by omega, by omega, rfl, rfl⟩ (by simp; omega)
    · rw [if_neg (by simpa using hlt2)]
      exact fin q8 m
  · -- one is the other's beginning
    have rest : ∀ (k : Int), (compareT xs ys).1 = k → ((k == 1) == ((s4.n : Int) == (s5.n : Int))) = true →
        (if (((partAt xs ys : Nat) : Int) == ((min xs.length ys.length : Nat) : Int)) = true then
          if ((k == 1) == ((s4.n : Int) == (s5.n : Int))) = true then
          callK Tryz.prog .bool F.fork_Rolled #[(.slice s5.a s5.n s5.c), (.slice s4.a s4.n s4.c)] (fun (v_16 : Bool) (h : Heap) => R (.bool (v_16 == (k == 2))) h) q8.h
          else R (.bool false) q8.h
        else R (.bool false) q8.h) := by
      intro k hk hlen
      rw [if_pos (by rw [hp]; simp), if_pos hlen]
      refine rolled_spec sy sx fun q9 m9 => ⟨_, rfl, ?_⟩
      dsimp only
      have : (rolledT ys xs == (k == 2)) = true := by unfold rolledT; rw [hk]; simp
      rw [this]
      exact fin q9 (m.step m9 (by simp))
    rcases hcase with ⟨hl, h1, h2⟩ | ⟨hl, h1, h2⟩ | ⟨hl, h1, h2⟩
    · rw [h1, h2]
      rw [if_pos (by decide)]
      refine joinW_intro (fun (s : Bool) h' => s = true ∧ h' = q8.h) (fun J hJ => ?_) ?_
      · rw [if_pos (by decide), if_pos (by decide)]
        exact hJ _ _ ⟨rfl, rfl⟩
      · rintro s _ ⟨rfl, rfl⟩
        rw [if_pos rfl]
        exact rest 1 h1 (by simp [hnx, hny, hl])
    · rw [h1, h2]
      rw [if_pos (by decide)]
      refine joinW_intro (fun (s : Bool) h' => s = true ∧ h' = q8.h) (fun J hJ => ?_) ?_
      · rw [if_neg (by decide), if_pos (by decide), if_pos (by decide)]
        exact hJ _ _ ⟨rfl, rfl⟩
      · rintro s _ ⟨rfl, rfl⟩
        rw [if_pos rfl]
        exact rest 2 h1 (by simp [hnx, hny]; omega)
    · rw [h1, h2]
      rw [if_pos (by decide)]
      refine joinW_intro (fun (s : Bool) h' => s = true ∧ h' = q8.h) (fun J hJ => ?_) ?_
      · rw [if_neg (by decide), if_neg (by decide), if_pos (by decide)]
        exact hJ _ _ ⟨rfl, rfl⟩
      · rintro s _ ⟨rfl, rfl⟩
        rw [if_pos rfl]
        exact rest 3 h1 (by simp [hnx, hny]; omega)

theorem ForkParts_walk {h : Heap} (t : Array Value) (z : List Int) (w2 : Lay h ShTag z t.toList) (a : Option Addr) (la ca : Nat) (x : List BodyT) (w : Lay h (.sl ShBody) x [.slice a la ca]) (b : Option Addr) (lb cb : Nat) (y : List BodyT) (w' : Lay h (.sl ShBody) y [.slice b lb cb]) :
    HC Tryz.prog F.law21_ForkParts #[.agg t, .slice a la ca, .slice b lb cb] (fun v h' => v = .bool true ∧ Ext h h') h := by
  obtain ⟨t⟩ := t
  obtain ⟨rfl, ok⟩ := LayC.enc (s := ShTag) rfl (w2.arg (Mv.refl [] ⟨h, fun _ => 0⟩) (by simp))
  exact ForkParts_spec ⟨h, fun _ => 0⟩ z ok ⟨a, la, ca⟩ x (c := 0) (w.arg (Mv.refl [] _) (by simp)) ⟨b, lb, cb⟩ y (d := 0) (w'.arg (Mv.refl [] _) (by simp)) fun g' m => ⟨rfl, m.ext (by simp)⟩

end Go.Proofs.YtgggpnjjkcfckaaGreat
