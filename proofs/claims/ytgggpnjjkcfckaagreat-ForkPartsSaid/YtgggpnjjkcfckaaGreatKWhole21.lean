/-
  Chains of a real maker are the document's; whole rows.
-/
import Derived.Test.YtgggpnjjkcfckaaGreatKLaw21
import Derived.Test.YtgggpnjjkcfckaaGreatKLaw20
set_option linter.unusedSimpArgs false
set_option linter.unusedVariables false
namespace Go.Proofs.YtgggpnjjkcfckaaGreat
open Go Go.Ev

theorem head_real (asked : List ShThing.T) (game : List Int) (es : List EntryT) : headT true asked game (es.map tag20) = (head20 game es, asked) := by
  unfold headT head20
  rw [List.length_map]
  by_cases h0 : es.length = 0
  · rw [if_pos h0, if_pos h0]; rfl
  · rw [if_neg h0, if_neg h0]
    have hlt : es.length - 1 < es.length := by omega
    simp only [List.getD_eq_getElem?_getD, List.getElem?_map, List.getElem?_eq_getElem hlt, Option.map_some, Option.getD_some]
theorem why_real (asked : List ShThing.T) (game : List Int) (es : List EntryT) (e : EntryT) : whyS true game (asked, es, es.map tag20) e = (why20 game es e, asked) := by
  unfold whyS whyT why20
  simp only [head_real]
  by_cases hg : entryOk e = false
  · rw [if_pos hg, if_pos hg]
  rw [if_neg hg, if_neg hg]
  by_cases hgm : ¬ e.game = game
  · rw [if_pos hgm, if_pos hgm]
  rw [if_neg hgm, if_neg hgm]
  have h0 := (entryOk_num (by simpa using hg)).1
  have hat : atT es e.number = if e.number < (es.length : Int) then (es.getD e.number.toNat entry0, true) else (entry0, false) := by
    unfold atT
    by_cases hlt : e.number < (es.length : Int)
    · rw [if_pos ⟨h0, hlt⟩, if_pos hlt]
    · rw [if_neg (fun h => hlt h.2), if_neg hlt]
  rw [hat]
  by_cases hlt : e.number < (es.length : Int)
  · by_cases h12 : es.getD e.number.toNat entry0 = e
    · simp only [hlt, h12, if_true, and_self, true_and]
    · simp only [hlt, h12, if_true, if_false, and_false, true_and]
  · by_cases h11 : e.number > (es.length : Int)
    · simp only [hlt, h11, if_true, if_false, false_and, Bool.false_eq_true]
    · by_cases h7 : e.ahead = head20 game es
      · simp only [hlt, h11, h7, if_true, if_false, false_and, Bool.false_eq_true, not_true_eq_false]
      · simp only [hlt, h11, h7, if_true, if_false, false_and, Bool.false_eq_true, not_false_eq_true]
theorem add_real (asked : List ShThing.T) (game : List Int) : ∀ (l es : List EntryT), addT true game (asked, es, es.map tag20) l = ((add20 game es l).1, (asked, (add20 game es l).2, (add20 game es l).2.map tag20))
  | [], es => by simp [addT, add20]
  | e :: l, es => by
    rw [addT, add20, why_real]
    dsimp only
    by_cases hw : why20 game es e = 0
    · rw [if_pos hw, if_pos hw]
      have hlk : linkT true asked e = (tag20 e, asked) := rfl
      rw [hlk]
      have : es.map tag20 ++ [tag20 e] = (es ++ [e]).map tag20 := by simp
      dsimp only
      rw [this]
      exact add_real asked game l (es ++ [e])
    · rw [if_neg hw, if_neg hw]

def wholeT (game : List Int) (l : List EntryT) : Nat × Int := ((add20 game [] l).2.length, (add20 game [] l).1)

theorem wholeAny_spec {g : GH} {c k d pm : Nat} (hck : ¬ c = k) (hd : ¬ d = k) {real : Bool} {seed : List Int} {asked : List ShThing.T} (mk : MakC g c k pm real seed asked) (game : List Int) (hg : ShTag.ok game) (v : Sl) (l : List EntryT) (hv : SlC g d ShEntry v l) (hl : l.length ≤ 1000000) {R : Value → Heap → Prop}
    (H : ∀ g' : GH, Mv [k] g g' → MakC g' c k pm real seed (addT real game (asked, [], []) l).2.1 → R (.tuple #[.int .i64 ((addT real game (asked, [], []) l).2.2.1.length : Nat), .int .i64 (addT real game (asked, [], []) l).1]) g'.h) : HC Tryz.prog F.fork_Whole #[.pointer (some ⟨pm, 0, none⟩), .agg ⟨ShTag.enc game⟩, .slice v.a v.n v.c] R g.h := by
  refine fork_Whole.calls (l2 := v) ?_
  unfold fork_Whole.body
  obtain ⟨y, hy, hyn⟩ := fresh_exists g [c, k, d]
  obtain ⟨y2, hy2, hyn2⟩ := fresh_exists g [c, k, d, y]
  obtain ⟨y3, hy3, hyn3⟩ := fresh_exists g [c, k, d, y, y2]
  obtain ⟨y4, hy4, hyn4⟩ := fresh_exists g [c, k, d, y, y2, y3]
  simp only [List.mem_cons, List.mem_nil_iff, or_false, not_or] at hyn hyn2 hyn3 hyn4
  have m : Mv [k, y, y2, y3, y4] g g := Mv.refl _ _
  have D : Dis c k y y2 y3 := ⟨hck, Ne.symm hyn.1, Ne.symm hyn2.1, Ne.symm hyn3.1, Ne.symm hyn.2.1, Ne.symm hyn2.2.1, Ne.symm hyn3.2.1, Ne.symm hyn2.2.2.2, Ne.symm hyn3.2.2.2.1, Ne.symm hyn3.2.2.2.2⟩
  refine new_C g y4 fun pg q1 m1 b1 => ?_
  replace m := m.step m1 (by simp)
  replace mk := mk.mv m1 (by simp) (by simp)
  refine loadTagAt (blkCells b1) hg ?_
  refine chainNew_spec y y2 y3 mk game hg fun p q2 m2 x => ⟨(_, _), rfl, ?_⟩
  replace m := m.step m2 (by simp)
  replace mk := mk.mv m2 (by simp) (by simp)
  dsimp only
  rw [if_neg (by simp)]
  have cm : CM q2 c k y y2 y3 p pm real seed game (asked, [], []) := ⟨mk, x⟩
  refine add_spec D (d := d) hd (Ne.symm hyn.2.2) (Ne.symm hyn2.2.2.1) (Ne.symm hyn3.2.2.1) cm v l ((hv.mv m1 (by simp)).mv m2 (by simp)) (by simpa using hl) fun q3 m3 cm => ⟨_, rfl, ?_⟩
  replace m := m.step m3 (by simp)
  refine chnLen_spec cm.ch ⟨_, rfl, ?_⟩
  have hre : ∀ j ∈ [k, y, y2, y3, y4], j ∈ [k] ∨ Fresh g j := by
    intro j hj
    simp only [List.mem_cons, List.mem_nil_iff, or_false] at hj
    rcases hj with rfl | rfl | rfl | rfl | rfl
    · exact .inl (by simp)
    · exact .inr hy
    · exact .inr hy2
    · exact .inr hy3
    · exact .inr hy4
  exact H (g.via q3 id) (m.re id hre) (cm.ma.re (φ := id) m (.inl rfl) (.inl rfl))

theorem whole_spec {g : GH} {c k d pm : Nat} (hck : ¬ c = k) (hd : ¬ d = k) {seed : List Int} {asked : List ShThing.T} (mk : MakC g c k pm true seed asked) (game : List Int) (hg : ShTag.ok game) (v : Sl) (l : List EntryT) (hv : SlC g d ShEntry v l) (hl : l.length ≤ 1000000) {R : Value → Heap → Prop}
    (H : ∀ g' : GH, Mv [k] g g' → MakC g' c k pm true seed asked → R (.tuple #[.int .i64 (wholeT game l).1, .int .i64 (wholeT game l).2]) g'.h) : HC Tryz.prog F.fork_Whole #[.pointer (some ⟨pm, 0, none⟩), .agg ⟨ShTag.enc game⟩, .slice v.a v.n v.c] R g.h :=
  wholeAny_spec hck hd mk game hg v l hv hl fun g' m mk => by
    have ha : addT true game (asked, [], []) l = _ := add_real asked game l []
    rw [ha] at mk ⊢
    exact H g' m mk

set_option maxHeartbeats 1000000 in
theorem ref21Whole_spec {g : GH} {c d pm : Nat} (xr : MkR g c pm) (game : List Int) (hg : ShTag.ok game) (v : Sl) (l : List EntryT) (hv : SlC g d ShEntry v l) (hl : l.length ≤ 1000000) {R : Value → Heap → Prop}
    (H : ∀ g' : GH, Mv [] g g' → R (.tuple #[.int .i64 (wholeT game l).1, .int .i64 (wholeT game l).2]) g'.h) : HC Tryz.prog F.ref21_Whole #[.pointer (some ⟨pm, 0, none⟩), .agg ⟨ShTag.enc game⟩, .slice v.a v.n v.c] R g.h := by
  refine ref21_Whole.calls (l2 := v) ?_
  unfold ref21_Whole.body
  have m := Mv.refl [1, 2, 3] g.base
  replace xr := xr.base
  have hn := hv.len
  refine new_C g.base 1 fun pg q1 m1 b1 => ?_
  replace m := m.step m1 (by simp)
  replace xr := xr.mv m1 (by simp)
  refine loadTagAt (blkCells b1) hg ?_
  refine ⟨_, build20 pm game hg, ?_⟩
  refine new_C q1 2 fun p q2 m2 b2 => ?_
  replace m := m.step m2 (by simp)
  replace xr := xr.mv m2 (by simp)
  have x : Chn20 q2 2 3 p pm game [] := ⟨_, b2, OwnF.nil _ _ _ _, hg⟩
  refine loopW_rule (fun st h' => ∃ (i : Nat) (es : List EntryT) (q : GH), i ≤ l.length ∧ st = (i : Int) ∧ h' = q.h ∧ Mv [1, 2, 3] g.base q ∧ Chn20 q 2 3 p pm game es ∧ MkR q 0 pm ∧ es.length = i ∧ add20 game [] l = add20 game es (l.drop i)) (fun st => l.length - st.toNat)
    ⟨0, [], q2, by omega, rfl, rfl, m, x, xr, rfl, by simp⟩ ?_
  clear m m1 m2 x xr
  rintro X _ _ ⟨i, es, q, hi, rfl, rfl, m, x, xr, hlen, he⟩ hX
  have hvq : SlC q 0 ShEntry v l := hv.arg m (by simp)
  by_cases hlt : i < l.length
  · rw [if_pos (by simp [hn]; omega), wrapSucc (by omega)]
    have hcap := hvq.cap
    refine slice_mid (l := i) (h := i + 1) rfl rfl (by omega) (by omega) ?_
    have hdrop : l.drop i = l[i] :: l.drop (i + 1) := (List.drop_eq_getElem_cons hlt)
    have hone : SlC q 0 ShEntry ⟨if v.c = i then v.a else v.a.map (·.add (i * sizeOfT Tryz.prog T.api_Entry)), i + 1 - i, v.c - i⟩ [l[i]] := by
      have := hvq.subF rfl (l := i) (h := i + 1) szF_Entry (by decide) (by omega) (by omega)
      have e1 : (l.drop i).take (i + 1 - i) = [l[i]] := by rw [hdrop, show i + 1 - i = 1 by omega]; rfl
      rwa [e1] at this
    have ha1 : add20 game es [l[i]] = if why20 game es l[i] = 0 then (0, es ++ [l[i]]) else (why20 game es l[i], es) := by rw [add20, add20]
    have hstep : add20 game es (l.drop i) = if why20 game es l[i] = 0 then add20 game (es ++ [l[i]]) (l.drop (i + 1)) else (why20 game es l[i], es) := by rw [hdrop, add20]
    refine ref20Add_spec (by decide) (by decide) (by decide) (by decide) (by decide) x xr _ [l[i]] hone (by simp; omega) fun q3 m3 x => ⟨_, rfl, ?_⟩
    replace m := m.step m3 (by simp)
    replace xr := xr.mv m3 (by simp)
    rw [ha1] at x ⊢
    by_cases hw : why20 game es l[i] = 0
    · rw [if_pos hw] at x hstep ⊢
      dsimp only
      rw [if_neg (by simp)]
      exact hX _ _ ⟨i + 1, es ++ [l[i]], q3, by omega, rfl, rfl, m, x, xr, by simp; omega, by rw [he, hstep]⟩ (by simp; omega)
    · rw [if_neg hw] at x hstep ⊢
      dsimp only
      rw [if_pos (by simpa using hw)]
      have hw2 : wholeT game l = (i, why20 game es l[i]) := by unfold wholeT; rw [he, hstep, hlen]
      rw [hw2] at H
      exact H (g.via q3 fun _ => 0) (m.via (by simp) _)
  · rw [if_neg (by simp [hn]; omega)]
    have hi' : i = l.length := by omega
    have hw2 : wholeT game l = (l.length, 0) := by unfold wholeT; rw [he, hi', List.drop_length, add20, ← hi', hlen]
    rw [hw2] at H
    rw [hn]
    exact H (g.via q fun _ => 0) (m.via (by simp) _)

end Go.Proofs.YtgggpnjjkcfckaaGreat
