/-
  The statements of layer 20, their parts: chains that are made, grown, tried again.
-/
import Derived.Test.YtobdneijofchkaaKChain
set_option linter.unusedSimpArgs false
set_option linter.unusedVariables false
namespace Go.Proofs.Ytobdneijofchkaa
open Go Go.Ev

theorem of20_spec (g : GH) (c k kc ke kl : Nat) (real : Bool) (game : List Int) (hg : ShTag.ok game) {R : Value → Heap → Prop}
    (H : ∀ (pm p : Nat) (g' : GH), Mv [] g g' → CM g' c k kc ke kl p pm real [] game ([], [], []) → R (.pointer (some ⟨p, 0, none⟩)) g'.h) : HC Try.prog F.law20_of #[.bool real, .agg ⟨ShTag.enc game⟩] R g.h := by
  refine law20_of.calls ?_
  unfold law20_of.body
  have m : Mv [] g g := Mv.refl _ _
  refine new_C g c fun b q1 m1 b1 => ?_
  replace m := m.step m1 (by simp)
  refine loadTagAt (blkCells b1) hg ?_
  refine makNew_spec q1 c k real ⟨none, 0, 0⟩ [] (RdC.nil _ _ 0 _ _) (by simp) (by simp) fun pm q2 m2 mk => ⟨_, rfl, ?_⟩
  replace m := m.step m2 (by simp)
  refine ⟨stillF (s := ShTag) (blkCells (b1.mv m2 (by simp))) szTag (by decide) (lenTag hg), ?_⟩
  refine chainNew_spec kc ke kl mk game hg fun p q3 m3 x => ⟨(_, _), rfl, ?_⟩
  replace m := m.step m3 (by simp)
  exact H pm p q3 m ⟨mk.mv m3 (by simp) (by simp), x⟩

theorem addT_len (real : Bool) (game : List Int) : ∀ (l : List EntryT) (st : ChSt), (addT real game st l).2.2.1.length ≤ st.2.1.length + l.length
  | [], st => by simp [addT]
  | e :: l, st => by
    rw [addT]
    split
    · have := addT_len real game l ((linkT real (whyS real game st e).2 e).2, st.2.1 ++ [e], st.2.2 ++ [(linkT real (whyS real game st e).2 e).1])
      simp only [List.length_append, List.length_cons, List.length_nil] at this ⊢
      omega
    · simp

/-- A chain of bodies, as far as they are right. -/
def grownT (real : Bool) (game : List Int) : ChSt → List BodyT → ChSt
  | st, [] => st
  | st, b :: l => if (nextT real game st b).1 = 0 then grownT real game (addT real game ((nextT real game st b).2.2, st.2) [(nextT real game st b).2.1]).2 l else grownT real game ((nextT real game st b).2.2, st.2) l
theorem grownT_len (real : Bool) (game : List Int) : ∀ (l : List BodyT) (st : ChSt), (grownT real game st l).2.1.length ≤ st.2.1.length + l.length
  | [], st => by simp [grownT]
  | b :: l, st => by
    rw [grownT]
    split
    · have h1 := grownT_len real game l (addT real game ((nextT real game st b).2.2, st.2) [(nextT real game st b).2.1]).2
      have h2 := addT_len real game [(nextT real game st b).2.1] ((nextT real game st b).2.2, st.2)
      simp only [List.length_cons, List.length_nil] at h1 h2 ⊢
      omega
    · have h1 := grownT_len real game l ((nextT real game st b).2.2, st.2)
      simp only [List.length_cons] at h1 ⊢
      omega

set_option maxHeartbeats 1000000 in
theorem grown_spec {g : GH} {c k kc ke kl d p pm : Nat} (D : Dis c k kc ke kl) (hd1 : ¬ d = k) (hd2 : ¬ d = kc) (hd3 : ¬ d = ke) (hd4 : ¬ d = kl) {real : Bool} {seed game : List Int} {st0 : ChSt} (x : CM g c k kc ke kl p pm real seed game st0) (v : Sl) (l : List BodyT) (hv : SlC g d ShBody v l) (hl : st0.2.1.length + l.length ≤ 1000000)
    {R : Value → Heap → Prop} (H : ∀ g' : GH, Mv [k, kc, ke, kl] g g' → CM g' c k kc ke kl p pm real seed game (grownT real game st0 l) → R (.tuple #[]) g'.h) : HC Try.prog F.law20_grown #[.pointer (some ⟨p, 0, none⟩), .slice v.a v.n v.c] R g.h := by
  refine law20_grown.calls (l1 := v) ?_
  unfold law20_grown.body
  obtain ⟨y, hy, hyn⟩ := fresh_exists g [c, k, kc, ke, kl, d]
  simp only [List.mem_cons, List.mem_nil_iff, or_false, not_or] at hyn
  have hn := hv.len
  have hre : ∀ j ∈ [k, kc, ke, kl, y], j ∈ [k, kc, ke, kl] ∨ Fresh g j := by
    intro j hj
    simp only [List.mem_cons, List.mem_nil_iff, or_false] at hj
    rcases hj with rfl | rfl | rfl | rfl | rfl
    · exact .inl (by simp)
    · exact .inl (by simp)
    · exact .inl (by simp)
    · exact .inl (by simp)
    · exact .inr hy
  refine loopW_rule (fun s h' => ∃ (i : Nat) (st : ChSt) (q : GH), i ≤ l.length ∧ s = (i : Int) ∧ h' = q.h ∧ Mv [k, kc, ke, kl, y] g q ∧ CM q c k kc ke kl p pm real seed game st ∧ st.2.1.length ≤ st0.2.1.length + i ∧ grownT real game st0 l = grownT real game st (l.drop i)) (fun s => l.length - s.toNat)
    ⟨0, st0, g, by omega, rfl, rfl, Mv.refl _ _, x, by omega, by simp⟩ ?_
  rintro X _ _ ⟨i, st, q, hi, rfl, rfl, m, x, hlen, hadd⟩ hX
  try dsimp only
  by_cases hlt : i < l.length
  · rw [if_pos (by first | omega | (simp [hn]; omega))]
    have hdrop : l.drop i = l[i] :: l.drop (i + 1) := List.drop_eq_getElem_cons hlt
    rw [hdrop, grownT] at hadd
    have hv1 := hv.mv m (by simp [hd1, hd2, hd3, hd4, Ne.symm hyn.2.2.2.2.2])
    refine hv1.idxF rfl szBody (by decide) hlt fun b1 o1 c1 okb l1 => loadF c1 szBody (by decide) l1 ?_
    refine chnNext_spec D x (by omega) l[i] okb fun q1 m1 x1 oke => ⟨(_, _), rfl, ?_⟩
    replace m := m.step m1 (by simp)
    rw [zEntry]
    refine newStore_C q1 y (by rw [szEntry]; exact lenEntry oke) (by rw [szEntry, List.size_toArray, lenEntry okEntry0]) (fun v hv => Sh.enc_one (s := ShEntry) rfl v hv) fun pe q2 m2 be => ?_
    replace m := m.step m2 (by simp)
    replace x1 := x1.mv m2 (by simp) (by simp) (by simp) (by simp) (by simp)
    try dsimp only
    by_cases hw : (nextT real game st l[i]).1 = 0
    · rw [if_pos (by simpa using hw)]
      rw [if_pos hw] at hadd
      refine loadEntryAt (blkCells be) oke ?_
      refine mkEntry_C q2 y oke fun s3 q3 m3 o3 hc3 => ?_
      replace m := m.step m3 (by simp)
      replace x1 := x1.mv m3 (by simp) (by simp) (by simp) (by simp) (by simp)
      refine add_spec D (d := y) hyn.2.1 hyn.2.2.1 hyn.2.2.2.1 hyn.2.2.2.2.1 x1 s3 [(nextT real game st l[i]).2.1] (o3.slc rfl (by simp)) (by simp only [List.length_cons, List.length_nil]; omega) fun q4 m4 x4 => ⟨_, rfl, ?_⟩
      replace m := m.step m4 (by simp)
      have h2 := addT_len real game [(nextT real game st l[i]).2.1] ((nextT real game st l[i]).2.2, st.2)
      simp only [List.length_cons, List.length_nil] at h2
      rw [wrapSucc (by omega)]
      exact hX _ _ ⟨i + 1, _, q4, by omega, rfl, rfl, m, x4, by omega, hadd⟩ (by simp; omega)
    · rw [if_neg (by simpa using hw), wrapSucc (by omega)]
      rw [if_neg hw] at hadd
      exact hX _ _ ⟨i + 1, _, q2, by omega, rfl, rfl, m, x1, by show st.2.1.length ≤ _; omega, hadd⟩ (by simp; omega)
  · rw [if_neg (by first | omega | (simp [hn]; omega))]
    have hi' : i = l.length := by omega
    subst hi'
    rw [List.drop_length] at hadd
    have := H (g.via q id) (m.re id hre) (by rw [hadd]; exact ⟨x.ma.re (φ := id) m (.inl rfl) (.inl rfl), x.ch.re (φ := id) m (.inl rfl) (.inl rfl) (.inl rfl)⟩)
    exact this

/-- Why the first of entries that does not fit does not. -/
def againT (real : Bool) (game : List Int) : ChSt → List EntryT → Int × ChSt
  | st, [] => (0, st)
  | st, e :: l => if (whyS real game st e).1 = 0 then againT real game (addT real game ((whyS real game st e).2, st.2) [e]).2 l else ((whyS real game st e).1, (whyS real game st e).2, st.2)

set_option maxHeartbeats 1000000 in
theorem again_spec {g : GH} {c k kc ke kl d p pm : Nat} (D : Dis c k kc ke kl) (hd1 : ¬ d = k) {real : Bool} {seed game : List Int} {st0 : ChSt} (x : CM g c k kc ke kl p pm real seed game st0) (v : Sl) (l : List EntryT) (hv : SlC g d ShEntry v l) (hl : st0.2.1.length + l.length ≤ 1000000)
    {R : Value → Heap → Prop} (H : ∀ g' : GH, Mv [k] g g' → MakC g' c k pm real seed (againT real game st0 l).2.1 → R (.int .i64 (againT real game st0 l).1) g'.h) : HC Try.prog F.law20_again #[.pointer (some ⟨p, 0, none⟩), .slice v.a v.n v.c] R g.h := by
  refine law20_again.calls (l1 := v) ?_
  unfold law20_again.body
  obtain ⟨yc, hy1, hn1⟩ := fresh_exists g [c, k, d]
  obtain ⟨ye, hy2, hn2⟩ := fresh_exists g [c, k, d, yc]
  obtain ⟨yl, hy3, hn3⟩ := fresh_exists g [c, k, d, yc, ye]
  obtain ⟨y, hy4, hn4⟩ := fresh_exists g [c, k, d, yc, ye, yl]
  simp only [List.mem_cons, List.mem_nil_iff, or_false, not_or] at hn1 hn2 hn3 hn4
  have D' : Dis c k yc ye yl := ⟨D.ck, Ne.symm hn1.1, Ne.symm hn2.1, Ne.symm hn3.1, Ne.symm hn1.2.1, Ne.symm hn2.2.1, Ne.symm hn3.2.1, Ne.symm hn2.2.2.2, Ne.symm hn3.2.2.2.1, Ne.symm hn3.2.2.2.2⟩
  have hn := hv.len
  have hre : ∀ j ∈ [k, yc, ye, yl, y], j ∈ [k] ∨ Fresh g j := by
    intro j hj
    simp only [List.mem_cons, List.mem_nil_iff, or_false] at hj
    rcases hj with rfl | rfl | rfl | rfl | rfl
    · exact .inl (by simp)
    · exact .inr hy1
    · exact .inr hy2
    · exact .inr hy3
    · exact .inr hy4
  refine chnCopy_spec x.ch (by omega) yc ye yl fun p' q1 m1 ch1 => ⟨_, rfl, ?_⟩
  have m : Mv [k, yc, ye, yl, y] g q1 := m1.mono (by simp)
  have x1 : CM q1 c k yc ye yl p' pm real seed game st0 := ⟨x.ma.mv m1 (by simp) (by simp), ch1⟩
  have fin : ∀ (n : Int) (st : ChSt), againT real game st0 l = (n, st) → ∀ q : GH, Mv [k, yc, ye, yl, y] g q → MakC q c k pm real seed st.1 → R (.int .i64 n) q.h := by
    intro n st e q mq cm
    have := H (g.via q id) (mq.re id hre) (by rw [e]; exact cm.re (φ := id) mq (.inl rfl) (.inl rfl))
    rw [e] at this
    exact this
  refine loopW_rule (fun s h' => ∃ (i : Nat) (st : ChSt) (q : GH), i ≤ l.length ∧ s = (i : Int) ∧ h' = q.h ∧ Mv [k, yc, ye, yl, y] g q ∧ CM q c k yc ye yl p' pm real seed game st ∧ st.2.1.length ≤ st0.2.1.length + i ∧ againT real game st0 l = againT real game st (l.drop i)) (fun s => l.length - s.toNat)
    ⟨0, st0, q1, by omega, rfl, rfl, m, x1, by omega, by simp⟩ ?_
  clear m m1 x1 ch1
  rintro X _ _ ⟨i, st, q, hi, rfl, rfl, m, x, hlen, hadd⟩ hX
  try dsimp only
  by_cases hlt : i < l.length
  · rw [if_pos (by first | omega | (simp [hn]; omega))]
    have hdrop : l.drop i = l[i] :: l.drop (i + 1) := List.drop_eq_getElem_cons hlt
    rw [hdrop, againT] at hadd
    have hdk : d ∉ [k, yc, ye, yl, y] := by simp [hd1, Ne.symm hn1.2.2, Ne.symm hn2.2.2.1, Ne.symm hn3.2.2.1, Ne.symm hn4.2.2.1]
    have hv1 := hv.mv m hdk
    refine hv1.idxF rfl szEntry (by decide) hlt fun b1 o1 c1 oke l1 => loadF c1 szEntry (by decide) l1 ?_
    refine why_spec D' x.ma x.ch (by omega) l[i] oke fun q2 m2 mk2 => ⟨_, rfl, ?_⟩
    replace m := m.step m2 (by simp)
    have ch2 := x.ch.mv m2 (by simp [Ne.symm D'.kkc]) (by simp [Ne.symm D'.kke]) (by simp [Ne.symm D'.kkl])
    have x2 : CM q2 c k yc ye yl p' pm real seed game ((whyS real game st l[i]).2, st.2) := ⟨mk2, ch2⟩
    try dsimp only
    by_cases hw : (whyS real game st l[i]).1 = 0
    · have hw' : (whyT real st.1 game st.2.1 st.2.2 l[i]).1 = 0 := hw
      rw [if_neg (by simp [hw'])]
      rw [if_pos hw] at hadd
      refine (hv.mv m hdk).idxF rfl szEntry (by decide) hlt fun b1 o1 c1 oke l1 => loadF c1 szEntry (by decide) l1 ?_
      refine mkEntry_C q2 y oke fun s3 q3 m3 o3 hc3 => ?_
      replace m := m.step m3 (by simp)
      replace x2 := x2.mv m3 (by simp) (by simp) (by simp) (by simp) (by simp)
      refine add_spec D' (d := y) hn4.2.1 hn4.2.2.2.1 hn4.2.2.2.2.1 hn4.2.2.2.2.2 x2 s3 [l[i]] (o3.slc rfl (by simp)) (by simp only [List.length_cons, List.length_nil]; omega) fun q4 m4 x4 => ⟨_, rfl, ?_⟩
      replace m := m.step m4 (by simp)
      have h2 := addT_len real game [l[i]] ((whyS real game st l[i]).2, st.2)
      simp only [List.length_cons, List.length_nil] at h2
      rw [wrapSucc (by omega)]
      exact hX _ _ ⟨i + 1, _, q4, by omega, rfl, rfl, m, x4, by omega, hadd⟩ (by simp; omega)
    · have hw' : ¬ (whyT real st.1 game st.2.1 st.2.2 l[i]).1 = 0 := hw
      rw [if_pos (by simp [hw'])]
      rw [if_neg hw] at hadd
      exact fin _ _ hadd q2 m x2.ma
  · rw [if_neg (by first | omega | (simp [hn]; omega))]
    have hi' : i = l.length := by omega
    subst hi'
    rw [List.drop_length] at hadd
    exact fin 0 st hadd q m x.ma

/-! ### In plain Lean: of a real maker nothing hangs on what was asked -/

theorem sumT_real (asked : List ShThing.T) (bs : List Int) : sumT true asked bs = (shaB bs, asked) := rfl
theorem headT_real (asked : List ShThing.T) (game : List Int) (ls : List (List Int)) : (headT true asked game ls).2 = asked := by
  unfold headT; split <;> rfl
theorem whyS_real (game : List Int) (st : ChSt) (e : EntryT) : (whyS true game st e).2 = st.1 := by
  unfold whyS whyT
  repeat' split
  all_goals first | rfl | exact headT_real _ _ _
theorem linkT_real (asked : List ShThing.T) (e : EntryT) : (linkT true asked e).2 = asked := rfl
theorem whyS_codes (real : Bool) (game : List Int) (st : ChSt) (e : EntryT) : (whyS real game st e).1 ≠ 1 := by
  unfold whyS whyT
  repeat' split
  all_goals simp
theorem addOne (real : Bool) (game : List Int) (st : ChSt) (e : EntryT) : addT real game st [e] = if (whyS real game st e).1 = 0 then (0, (linkT real (whyS real game st e).2 e).2, st.2.1 ++ [e], st.2.2 ++ [(linkT real (whyS real game st e).2 e).1]) else ((whyS real game st e).1, (whyS real game st e).2, st.2) := by
  rw [addT]; rfl
theorem again_eq (game : List Int) : ∀ (l : List EntryT) (st : ChSt), againT true game st l = addT true game st l
  | [], st => rfl
  | e :: l, st => by
    have h : ((whyS true game st e).2, st.2) = st := by rw [whyS_real]
    have e2 : addT true game st (e :: l) = if (whyS true game st e).1 = 0 then addT true game ((linkT true (whyS true game st e).2 e).2, st.2.1 ++ [e], st.2.2 ++ [(linkT true (whyS true game st e).2 e).1]) l else ((whyS true game st e).1, (whyS true game st e).2, st.2) := by rw [addT]
    rw [againT, e2]
    by_cases hw : (whyS true game st e).1 = 0
    · rw [if_pos hw, if_pos hw, h, addOne, if_pos hw, again_eq game l]
    · rw [if_neg hw, if_neg hw]

end Go.Proofs.Ytobdneijofchkaa
