/-
  Ranges over functions, in colours. Nothing of a given program stands here.
-/
import Derived.Test.YtgongoaiflphaaaGreatLay
import Derived.Test.YtgongoaiflphaaaGreatBuild
set_option linter.unusedSimpArgs false
set_option linter.unusedVariables false
namespace Go.Ev
open Go

/-- An object that is no row, of a colour. -/
structure ObjC (g : GH) (c b : Nat) (o : Obj) : Prop where
  at_ : g.h[b]? = some o
  col : g.γ b = c
theorem ObjC.mv {K : List Nat} {g g' : GH} {c b : Nat} {o : Obj} (r : ObjC g c b o) (m : Mv K g g') (hk : c ∉ K) : ObjC g' c b o :=
  ⟨m.get r.at_ (by rw [r.col]; exact hk), by rw [m.col' r.at_]; exact r.col⟩
theorem pushObj (g : GH) (c : Nat) (o : Obj) : ∃ g' : GH, g'.h = g.h.push o ∧ Mv [] g g' ∧ ObjC g' c g.h.size o :=
  ⟨g.to (g.h.push o) c, rfl, GH.to_ext c (Ext.push _ _), by simp [GH.to], g.to_new _ _ _ (Nat.le_refl _)⟩
theorem setObj {g : GH} {c b : Nat} {o : Obj} (r : ObjC g c b o) (o' : Obj) : ∃ g' : GH, g'.h = g.h.setIfInBounds b o' ∧ Mv [c] g g' ∧ ObjC g' c b o' := by
  have hlt := lt_of_get r.at_
  refine ⟨⟨g.h.setIfInBounds b o', g.γ⟩, rfl, ⟨by simp, fun _ _ => rfl, fun x hx hk => ?_⟩, by simp [hlt], r.col⟩
  have hne : b ≠ x := fun e => by subst e; rw [r.col] at hk; simp at hk
  simp [Array.getElem?_setIfInBounds_ne hne]

/-- A loop over a function: what the record of the loop is worth: l its block (of colour cl), D the block for deferred calls (of colour cd). -/
theorem rangeK_C {P : Program} {vars : List (Nat × Kd)} {round : (Heap → (Heap → Prop) → Prop) → Tup vars → (Exit → Heap → Prop) → Heap → Prop} {Kn Kr : Heap → Prop} {f : FuncId} {first captured : Array Value} (g : GH) (cl cd : Nat)
    (H : ∀ (rec : Loop) (l : Nat) (g1 : GH), Mv [] g g1 → ObjC g1 cl l (loopObj rec .ready none) → ObjC g1 cd g.h.size (.deferred (some [])) →
      (∀ (s : Tup vars) (R : Value → Heap → Prop) (q : GH), ObjC q cl l (loopObj rec .ready none) → round (begK rec l) s (endK rec l R) q.h → YC P l ⟨Tup.vals vars s⟩ R q.h) →
      callK P .unit f (appA (appA first #[.func (.yield l) #[] #[]]) captured)
        (fun _ h2 => (∃ q : GH, h2 = q.h ∧ ObjC q cl l (loopObj rec .ready none) ∧ ∀ q' : GH, Mv [cl] q q' → Kn q'.h) ∨ ∃ q : GH, h2 = q.h ∧ ObjC q cl l (loopObj rec .done (some .ret)) ∧ ∀ q' : GH, Mv [cl] q q' → Kr q'.h) g1.h) :
    rangeK P (.func (.func f) first captured) vars round Kn Kr g.h := by
  refine ⟨f, first, captured, rfl, fun rec hY => ?_⟩
  obtain ⟨g0, h0, m0, o0⟩ := pushObj g cd (.deferred (some []))
  obtain ⟨g1, h1, m1, o1⟩ := pushObj g0 cl (loopObj rec .ready none)
  have hs : g0.h.size = g.h.size + 1 := by rw [h0]; simp
  rw [hs] at o1
  have := H rec _ g1 ((m0.trans m1).mono (by simp)) o1 (o0.mv m1 (by simp)) (fun s R q hq hr => hY s R q.h hq.at_ hr)
  rw [h1, h0] at this
  refine HC.mono this fun v h' => ?_
  rintro ⟨x, hx, ⟨q, rfl, hq, hk⟩ | ⟨q, rfl, hq, hk⟩⟩
  · obtain ⟨q', e, m, o⟩ := setObj hq (loopObj rec .exhausted none)
    exact ⟨x, hx, .inl ⟨hq.at_, e ▸ hk q' m⟩⟩
  · obtain ⟨q', e, m, o⟩ := setObj hq (loopObj rec .exhausted (some .ret))
    exact ⟨x, hx, .inr ⟨hq.at_, e ▸ hk q' m⟩⟩

theorem begK_C {rec : Loop} {l cl : Nat} {q : GH} (o : ObjC q cl l (loopObj rec .ready none)) {X : Heap → Prop} (H : ∀ q' : GH, Mv [cl] q q' → ObjC q' cl l (loopObj rec .busy none) → X q'.h) : begK rec l q.h X := by
  obtain ⟨q', e, m, o'⟩ := setObj o (loopObj rec .busy none)
  exact ⟨o.at_, e ▸ H q' m o'⟩
theorem endK_on {rec : Loop} {l cl : Nat} {q : GH} (o : ObjC q cl l (loopObj rec .busy none)) {R : Value → Heap → Prop} (H : ∀ q' : GH, Mv [cl] q q' → ObjC q' cl l (loopObj rec .ready none) → R (.bool true) q'.h) : endK rec l R .normal q.h := by
  obtain ⟨q', e, m, o'⟩ := setObj o (loopObj rec .ready none)
  exact ⟨o.at_, none, rfl, e ▸ H q' m o'⟩
theorem leaveK_C {d cd : Nat} {q : GH} (o : ObjC q cd d (.deferred (some []))) {K : Heap → Prop} (H : ∀ q' : GH, Mv [cd] q q' → K q'.h) : leaveK (some d) q.h K := by
  obtain ⟨q', e, m, o'⟩ := setObj o (.deferred none)
  exact ⟨o.at_, e ▸ H q' m⟩

theorem YC.mono {P : Program} {l : Nat} {args : Array Value} {R R' : Value → Heap → Prop} {h : Heap} (H : YC P l args R h) (hr : ∀ v h', R v h' → R' v h') : YC P l args R' h := fun w hw => by
  obtain ⟨f, tmps, assign, body, hy, hround⟩ := H w hw
  exact ⟨f, tmps, assign, body, hy, hround.mono fun e w' ⟨v, e1, s, r⟩ => ⟨v, e1, s, hr _ _ r⟩⟩

end Go.Ev
