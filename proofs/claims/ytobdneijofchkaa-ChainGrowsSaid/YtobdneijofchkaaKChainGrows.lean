/-
  The statement ChainGrows.
-/
import Derived.Test.YtobdneijofchkaaKAwake20
set_option linter.unusedSimpArgs false
set_option linter.unusedVariables false
namespace Go.Proofs.Ytobdneijofchkaa
open Go Go.Ev

theorem addT_asked (game : List Int) : ∀ (l : List EntryT) (st : ChSt), (addT true game st l).2.1 = st.1
  | [], st => rfl
  | e :: l, st => by
    have e2 : addT true game st (e :: l) = if (whyS true game st e).1 = 0 then addT true game ((linkT true (whyS true game st e).2 e).2, st.2.1 ++ [e], st.2.2 ++ [(linkT true (whyS true game st e).2 e).1]) l else ((whyS true game st e).1, (whyS true game st e).2, st.2) := by rw [addT]
    rw [e2]
    by_cases hw : (whyS true game st e).1 = 0
    · rw [if_pos hw, addT_asked game l]
      show (linkT true (whyS true game st e).2 e).2 = st.1
      rw [linkT_real, whyS_real]
    · rw [if_neg hw]
      exact whyS_real _ _ _

set_option maxHeartbeats 2000000 in
set_option maxRecDepth 20000 in
theorem ChainGrows_spec (g : GH) (game : List Int) (hg : ShTag.ok game) (va : Sl) (bs : List BodyT) (ha : SlC g 0 ShBody va bs) (vl : Sl) (l : List EntryT) (hl : SlC g 0 ShEntry vl l)
    {R : Value → Heap → Prop} (H : ∀ g' : GH, Mv [] g g' → R (.bool true) g'.h) : HC Try.prog F.law20_ChainGrows #[.agg ⟨ShTag.enc game⟩, .slice va.a va.n va.c, .slice vl.a vl.n vl.c] R g.h := by
  refine law20_ChainGrows.calls (a1 := va) (l2 := vl) ?_
  unfold law20_ChainGrows.body
  have D : Dis 1 2 3 4 5 := ⟨by decide, by decide, by decide, by decide, by decide, by decide, by decide, by decide, by decide, by decide⟩
  have m := Mv.refl [1, 2, 3, 4, 5, 6] g.base
  have fin : ∀ q : GH, Mv [1, 2, 3, 4, 5, 6] g.base q → R (.bool true) q.h := fun q m => H (g.via q fun _ => 0) (m.via (by simp) _)
  refine new_C g.base 6 fun pg q1 m1 bg => ?_
  replace m := m.step m1 (by simp)
  refine awake20_spec q1 fun q2 m2 => ⟨_, rfl, ?_⟩
  replace m := m.step m2 (by simp)
  replace bg := bg.mv m2 (by simp)
  have hna := ha.len
  have hnl := hl.len
  have hsa := ha.small
  have hsl := hl.small
  try dsimp only
  rw [if_neg (by simp), wrapI64 (by omega) (by omega)]
  by_cases hbig : (va.n : Int) + (vl.n : Int) > 120
  · rw [if_pos (by simpa using hbig)]
    exact fin q2 m
  rw [if_neg (by simpa using hbig)]
  refine loadTagAt (blkCells bg) hg ?_
  refine of20_spec q2 1 2 3 4 5 true game hg fun pm p q3 m3 x => ⟨_, rfl, ?_⟩
  replace m := m.step m3 (by simp)
  refine grown_spec D (d := 0) (by decide) (by decide) (by decide) (by decide) x va bs (ha.arg m (by simp)) (by simp; omega) fun q4 m4 x4 => ⟨(), rfl, ?_⟩
  replace m := m.step m4 (by simp)
  obtain ⟨st1, hst1⟩ : ∃ st1, st1 = grownT true game ([], [], []) bs := ⟨_, rfl⟩
  rw [← hst1] at x4
  have hlen1 : st1.2.1.length ≤ bs.length := by
    have := grownT_len true game bs ([], [], [])
    rw [← hst1] at this
    simpa using this
  refine chnCopy_spec x4.ch (by omega) 10 11 12 fun po q5 m5 ch5 => ⟨_, rfl, ?_⟩
  replace m := m.step m5 (by simp)
  replace x4 := x4.mv m5 (by simp) (by simp) (by simp) (by simp) (by simp)
  refine chnEntries_spec x4.ch (by omega) 13 fun s7 q6 m6 o7 => ⟨_, rfl, ?_⟩
  replace m := m.step m6 (by simp)
  replace x4 := x4.mv m6 (by simp) (by simp) (by simp) (by simp) (by simp)
  replace ch5 := ch5.mv m6 (by simp) (by simp) (by simp)
  refine loopW_rule (fun s h' => ∃ (i : Nat) (st : ChSt) (q : GH) (v : Sl), i ≤ l.length ∧ s = (v, (i : Int)) ∧ h' = q.h ∧ Mv [1, 2, 3, 4, 5, 6] g.base q ∧ CM q 1 2 3 4 5 p pm true [] game st ∧ st.2.1.length ≤ bs.length + i ∧ ChnC q 10 11 12 po pm game st1.2.1 st1.2.2 ∧ OwnF T.api_Entry ShEntry q 13 s7 st1.2.1 ∧ OwnF T.api_Entry ShEntry q 13 v st.2.1)
    (fun s => l.length - s.2.toNat) ⟨0, st1, q6, s7, by omega, rfl, rfl, m, x4, by omega, ch5, o7, o7⟩ ?_
  clear m m1 m2 m3 m4 m5 m6 x x4 ch5 o7 bg
  rintro X _ _ ⟨i, st, q, v, hi, rfl, rfl, m, x, hlen, co, of, ov⟩ hX
  try dsimp only
  by_cases hlt : i < l.length
  · rw [if_pos (by first | omega | (simp [hnl]; omega))]
    refine (hl.arg m (by simp)).idxF rfl szEntry (by decide) hlt fun b1 o1 c1 oke l1 => loadF c1 szEntry (by decide) l1 ?_
    refine why_spec D x.ma x.ch (by omega) l[i] oke fun q2 m2 mk2 => ⟨_, rfl, ?_⟩
    replace m := m.step m2 (by simp)
    have hst : ((whyS true game st l[i]).2, st.2) = st := by rw [whyS_real]
    have x2 : CM q2 1 2 3 4 5 p pm true [] game st := by
      have : CM q2 1 2 3 4 5 p pm true [] game ((whyS true game st l[i]).2, st.2) := ⟨mk2, x.ch.mv m2 (by simp) (by simp) (by simp)⟩
      rwa [hst] at this
    replace co := co.mv m2 (by simp) (by simp) (by simp)
    replace of := of.mv m2 (by simp)
    replace ov := ov.mv m2 (by simp)
    refine (hl.arg m (by simp)).idxF rfl szEntry (by decide) hlt fun b1 o1 c1 oke l1 => loadF c1 szEntry (by decide) l1 ?_
    refine mkEntry_C q2 14 oke fun s3 q3 m3 o3 hc3 => ?_
    replace m := m.step m3 (by simp)
    replace x2 := x2.mv m3 (by simp) (by simp) (by simp) (by simp) (by simp)
    refine add_spec D (d := 14) (by decide) (by decide) (by decide) (by decide) x2 s3 [l[i]] (o3.slc rfl (by simp)) (by simp only [List.length_cons, List.length_nil]; omega) fun q4 m4 x4 => ⟨_, rfl, ?_⟩
    replace m := m.step m4 (by simp)
    replace co := (co.mv m3 (by simp) (by simp) (by simp)).mv m4 (by simp) (by simp) (by simp)
    replace of := (of.mv m3 (by simp)).mv m4 (by simp)
    replace ov := (ov.mv m3 (by simp)).mv m4 (by simp)
    have h2 := addT_len true game [l[i]] st
    simp only [List.length_cons, List.length_nil] at h2
    refine chnEntries_spec x4.ch (by omega) 13 fun s5 q5 m5 o5 => ⟨_, rfl, ?_⟩
    replace m := m.step m5 (by simp)
    replace x4 := x4.mv m5 (by simp) (by simp) (by simp) (by simp) (by simp)
    replace co := co.mv m5 (by simp) (by simp) (by simp)
    replace of := of.mv m5 (by simp)
    replace ov := ov.mv m5 (by simp)
    have hvn := ov.len
    have h5n := o5.len
    have hcode := whyS_codes true game st l[i]
    have ha1 := addOne true game st l[i]
    have ew : whyT true st.1 game st.2.1 st.2.2 l[i] = whyS true game st l[i] := rfl
    try dsimp only
    rw [ew]
    by_cases hw : (whyS true game st l[i]).1 = 0
    · rw [if_pos hw] at ha1
      rw [ha1] at x4 o5 h5n ⊢
      have h5 : s5.n = st.2.1.length + 1 := by rw [h5n]; simp
      rw [hw, wrapI64 (by omega) (by omega), if_neg (by simp), if_neg (by simp [h5, hvn]), if_neg (by simp [h5, hvn]; omega), if_neg (by simp [h5, hvn])]
      refine slice_to (n := st.2.1.length) o5.plain (by rw [hvn]) (by have := o5.cap; omega) ?_
      have t5 := OwnF.take rfl o5 (n := st.2.1.length) (k := s5.c) (by simp) (by have := o5.cap; omega) (Nat.le_refl _)
      simp only [List.take_left] at t5
      refine ⟨_, SameEntries_spec ⟨s5.a, st.2.1.length, s5.c⟩ v st.2.1 st.2.1 (t5.slc rfl (by omega)) (ov.slc rfl (by omega)) ⟨rfl, rfl⟩, ?_⟩
      try dsimp only
      rw [if_neg (by simp), if_pos (by simp), hvn]
      refine (o5.slc rfl (by simp; omega)).idxF rfl szEntry (by decide) (by simp) fun b6 o6 c6 ok6 l6 => loadF c6 szEntry (by decide) l6 ?_
      refine (hl.arg m (by simp)).idxF rfl szEntry (by decide) hlt fun b7 o7 c7 ok7 l7 => loadF c7 szEntry (by decide) l7 ?_
      refine neqF_Entry ok6 ok7 fun r hr => ?_
      have hr0 : r = false := by
        cases r
        · rfl
        · exact absurd (by simp) (hr.1 rfl)
      subst hr0
      rw [if_neg (by simp), if_neg (by simp), wrapSucc (by omega)]
      exact hX _ _ ⟨i + 1, _, q5, s5, by omega, rfl, rfl, m, x4, by simp; omega, co, of, o5⟩ (by simp; omega)
    · rw [if_neg hw, hst] at ha1
      rw [ha1] at x4 o5 h5n ⊢
      have h5 : s5.n = st.2.1.length := h5n
      rw [wrapI64 (by omega) (by omega), if_neg (by simp), if_neg (by rw [show ((whyS true game st l[i]).1 == 0) = false by simpa using hw, show ((s5.n : Int) == (v.n : Int) + 1) = false by rw [beq_eq_false_iff_ne]; omega]; simp), if_neg (by simp [h5, hvn]), if_neg (by simp [h5, hvn]; omega)]
      refine slice_to (n := st.2.1.length) o5.plain (by rw [hvn]) (by have := o5.cap; omega) ?_
      have t5 := OwnF.take rfl o5 (n := st.2.1.length) (k := s5.c) (by simp) (by have := o5.cap; omega) (Nat.le_refl _)
      rw [List.take_length] at t5
      refine ⟨_, SameEntries_spec ⟨s5.a, st.2.1.length, s5.c⟩ v st.2.1 st.2.1 (t5.slc rfl (by omega)) (ov.slc rfl (by omega)) ⟨rfl, rfl⟩, ?_⟩
      try dsimp only
      rw [if_neg (by simp), if_neg (by simpa using hw), if_neg (by simpa using hcode), wrapSucc (by omega)]
      exact hX _ _ ⟨i + 1, _, q5, s5, by omega, rfl, rfl, m, x4, by omega, co, of, o5⟩ (by simp; omega)
  · rw [if_neg (by first | omega | (simp [hnl]; omega))]
    clear hX
    refine again_spec D (d := 0) (by decide) x vl l (hl.arg m (by simp)) (by omega) fun q2 m2 mk2 => ⟨_, rfl, ?_⟩
    replace m := m.step m2 (by simp)
    rw [again_eq, addT_asked] at mk2
    rw [again_eq]
    have x2 : CM q2 1 2 3 4 5 p pm true [] game st := ⟨mk2, x.ch.mv m2 (by simp) (by simp) (by simp)⟩
    replace co := co.mv m2 (by simp) (by simp) (by simp)
    replace of := of.mv m2 (by simp)
    refine chnEntries_spec co (by omega) 14 fun s3 q3 m3 o3 => ⟨_, rfl, ?_⟩
    replace m := m.step m3 (by simp)
    replace x2 := x2.mv m3 (by simp) (by simp) (by simp) (by simp) (by simp)
    refine SameEntries_spec s3 s7 st1.2.1 st1.2.1 (o3.slc rfl (by omega)) ((of.mv m3 (by simp)).slc rfl (by omega)) ⟨_, rfl, ?_⟩
    try dsimp only
    rw [if_pos (by simp)]
    refine add_spec D (d := 0) (by decide) (by decide) (by decide) (by decide) x2 vl l (hl.arg m (by simp)) (by omega) fun q4 m4 x4 => ⟨_, rfl, ?_⟩
    try dsimp only
    have e : ((addT true game st l).1 == (addT true game st l).1) = true := by simp
    rw [e]
    exact fin q4 (m.step m4 (by simp))

theorem ChainGrows_walk {h : Heap} (t : Array Value) (z : List Int) (w2 : Lay h ShTag z t.toList) (a : Option Addr) (la ca : Nat) (x : List BodyT) (w : Lay h (.sl ShBody) x [.slice a la ca]) (b : Option Addr) (lb cb : Nat) (y : List EntryT) (w' : Lay h (.sl ShEntry) y [.slice b lb cb]) :
    HC Try.prog F.law20_ChainGrows #[.agg t, .slice a la ca, .slice b lb cb] (fun v h' => v = .bool true ∧ Ext h h') h := by
  obtain ⟨t⟩ := t
  obtain ⟨rfl, ok⟩ := LayC.enc (s := ShTag) rfl (w2.arg (Mv.refl [] ⟨h, fun _ => 0⟩) (by simp))
  exact ChainGrows_spec ⟨h, fun _ => 0⟩ z ok ⟨a, la, ca⟩ x (w.arg (Mv.refl [] _) (by simp)) ⟨b, lb, cb⟩ y (w'.arg (Mv.refl [] _) (by simp)) fun g' m => ⟨rfl, m.ext (by simp)⟩

end Go.Proofs.Ytobdneijofchkaa
