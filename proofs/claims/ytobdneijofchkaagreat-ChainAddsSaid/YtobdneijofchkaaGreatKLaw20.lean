/-
  The statements of layer 20, their parts: chains that are made, grown, tried again.
-/
import Derived.Test.YtobdneijofchkaaGreatKChain
set_option linter.unusedSimpArgs false
set_option linter.unusedVariables false
namespace Go.Proofs.YtobdneijofchkaaGreat
open Go Go.Ev

theorem of20_spec (g : GH) (c k kc ke kl : Nat) (real : Bool) (game : List Int) (hg : ShTag.ok game) {R : Value → Heap → Prop}
    (H : ∀ (pm p : Nat) (g' : GH), Mv [] g g' → CM g' c k kc ke kl p pm real [] game ([], [], []) → R (.pointer (some ⟨p, 0, none⟩)) g'.h) : HC Tryz.prog F.law20_of #[.bool real, .agg ⟨ShTag.enc game⟩] R g.h := by
  refine law20_of.calls ?_
  unfold law20_of.body
  have m : Mv [] g g := Mv.refl _ _
  refine new_C g c fun b q1 m1 b1 => ?_
  replace m := m.step m1 (by simp)
  refine loadTagAt (blkCells b1) hg ?_
  refine makNew_spec q1 c k real ⟨none, 0, 0⟩ [] (RdC.nil _ _ 0 _ _) (by simp) (by simp) fun pm q2 m2 mk => ⟨_, rfl, ?_⟩
  replace m := m.step m2 (by simp)
  refine ⟨stillF (s := ShTag) (blkCells (b1.mv m2 (by simp))) szTag (by decide) (lenTag hg), ?_⟩
  refine chainNew_spec kc ke kl mk game hg fun p q3 m3 x => ⟨(_, _), rfl, ?_⟩
  replace m := m.step m3 (by simp)
  exact H pm p q3 m ⟨mk.mv m3 (by simp) (by simp), x⟩

theorem addT_len (real : Bool) (game : List Int) : ∀ (l : List EntryT) (st : ChSt), (addT real game st l).2.2.1.length ≤ st.2.1.length + l.length
  | [], st => by simp [addT]
  | e :: l, st => by
    rw [addT]
    split
    · have := addT_len real game l ((linkT real (whyS real game st e).2 e).2, st.2.1 ++ [e], st.2.2 ++ [(linkT real (whyS real game st e).2 e).1])
      simp only [List.length_append, List.length_cons, List.length_nil] at this ⊢
      omega
    · simp

/-- A chain of bodies, as far as they are right. -/
def grownT (real : Bool) (game : List Int) : ChSt → List BodyT → ChSt
  | st, [] => st
  | st, b :: l => if (nextT real game st b).1 = 0 then grownT real game (addT real game ((nextT real game st b).2.2, st.2) [(nextT real game st b).2.1]).2 l else grownT real game ((nextT real game st b).2.2, st.2) l
theorem grownT_len (real : Bool) (game : List Int) : ∀ (l : List BodyT) (st : ChSt), (grownT real game st l).2.1.length ≤ st.2.1.length + l.length
  | [], st => by simp [grownT]
  | b :: l, st => by
    rw [grownT]
    split
    · have h1 := grownT_len real game l (addT real game ((nextT real game st b).2.2, st.2) [(nextT real game st b).2.1]).2
      have h2 := addT_len real game [(nextT real game st b).2.1] ((nextT real game st b).2.2, st.2)
      simp only [List.length_cons, List.length_nil] at h1 h2 ⊢
      omega
    · have h1 := grownT_len real game l ((nextT real game st b).2.2, st.2)
      simp only [List.length_cons] at h1 ⊢
      omega

/-- Why the first of entries that does not fit does not. -/
def againT (real : Bool) (game : List Int) : ChSt → List EntryT → Int × ChSt
  | st, [] => (0, st)
  | st, e :: l => if (whyS real game st e).1 = 0 then againT real game (addT real game ((whyS real game st e).2, st.2) [e]).2 l else ((whyS real game st e).1, (whyS real game st e).2, st.2)

/-! ### In plain Lean: of a real maker nothing hangs on what was asked -/

theorem sumT_real (asked : List ShThing.T) (bs : List Int) : sumT true asked bs = (shaB bs, asked) := rfl
theorem headT_real (asked : List ShThing.T) (game : List Int) (ls : List (List Int)) : (headT true asked game ls).2 = asked := by
  unfold headT; split <;> rfl
theorem whyS_real (game : List Int) (st : ChSt) (e : EntryT) : (whyS true game st e).2 = st.1 := by
  unfold whyS whyT
  repeat' split
  all_goals first | rfl | exact headT_real _ _ _
theorem linkT_real (asked : List ShThing.T) (e : EntryT) : (linkT true asked e).2 = asked := rfl
theorem whyS_codes (real : Bool) (game : List Int) (st : ChSt) (e : EntryT) : (whyS real game st e).1 ≠ 1 := by
  unfold whyS whyT
  repeat' split
  all_goals simp
theorem addOne (real : Bool) (game : List Int) (st : ChSt) (e : EntryT) : addT real game st [e] = if (whyS real game st e).1 = 0 then (0, (linkT real (whyS real game st e).2 e).2, st.2.1 ++ [e], st.2.2 ++ [(linkT real (whyS real game st e).2 e).1]) else ((whyS real game st e).1, (whyS real game st e).2, st.2) := by
  rw [addT]; rfl
theorem again_eq (game : List Int) : ∀ (l : List EntryT) (st : ChSt), againT true game st l = addT true game st l
  | [], st => rfl
  | e :: l, st => by
    have h : ((whyS true game st e).2, st.2) = st := by rw [whyS_real]
    have e2 : addT true game st (e :: l) = if (whyS true game st e).1 = 0 then addT true game ((linkT true (whyS true game st e).2 e).2, st.2.1 ++ [e], st.2.2 ++ [(linkT true (whyS true game st e).2 e).1]) l else ((whyS true game st e).1, (whyS true game st e).2, st.2) := by rw [addT]
    rw [againT, e2]
    by_cases hw : (whyS true game st e).1 = 0
    · rw [if_pos hw, if_pos hw, h, addOne, if_pos hw, again_eq game l]
    · rw [if_neg hw, if_neg hw]

end Go.Proofs.YtobdneijofchkaaGreat
