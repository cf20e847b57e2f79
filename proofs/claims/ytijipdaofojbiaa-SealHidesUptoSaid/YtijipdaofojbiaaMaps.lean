/-
  Maps in memory. Nothing of a given program stands here.
-/
import Derived.Test.YtijipdaofojbiaaCol
set_option linter.unusedSimpArgs false
set_option linter.unusedVariables false
namespace Go.Ev
open Go

/-- A map: its entries, how many were made. -/
structure MapC (g : GH) (c r : Nat) (es : List MapEntry) (n : Nat) : Prop where
  at_ : g.h[r]? = some (.map ⟨es⟩ n)
  col : g.γ r = c
theorem MapC.mv {K : List Nat} {g g' : GH} {c r : Nat} {es : List MapEntry} {n : Nat} (x : MapC g c r es n) (m : Mv K g g') (hk : c ∉ K) : MapC g' c r es n :=
  ⟨m.get x.at_ (by rw [x.col]; exact hk), by rw [m.col' x.at_]; exact x.col⟩
theorem MapC.base {g : GH} {k r : Nat} {es : List MapEntry} {n : Nat} (x : MapC g k r es n) : MapC g.base 0 r es n := ⟨x.at_, rfl⟩
theorem MapC.via {K : List Nat} {g q : GH} {k r : Nat} {es : List MapEntry} {n : Nat} (x : MapC q k r es n) (m : Mv K g.base q) (hk : k ≠ 0) (φ : Nat → Nat) : MapC (g.via q φ) (φ k) r es n := ⟨x.at_, m.at_ φ x.col hk⟩
theorem MapC.re {K : List Nat} {g q : GH} {k r : Nat} {es : List MapEntry} {n : Nat} (x : MapC q k r es n) (m : Mv K g q) {φ : Nat → Nat} (h : φ k = k ∨ Fresh g k) : MapC (g.via q φ) (φ k) r es n := ⟨x.at_, m.reCol h x.col⟩

theorem run_getObj {P : Program} {w : World} {r : Nat} {es : Array MapEntry} {n : Nat} (h : w.heap[r]? = some (.map es n)) : (getObj r).run P w = .ok (.map es n) w := by
  simp only [getObj, Sem.run, h]
theorem run_setObj {P : Program} {w : World} {r : Nat} {es : Array MapEntry} {n : Nat} (h : w.heap[r]? = some (.map es n)) (o : Obj) : (setObj r o).run P w = .ok () { w with heap := w.heap.setIfInBounds r o } := by
  simp only [setObj, Sem.run, h]

section
variable {P : Program}

theorem makeMap_C {t : TypeId} (g : GH) (c : Nat) {K : Option Nat → Heap → Prop} (H : ∀ (r : Nat) (g' : GH), Mv [] g g' → MapC g' c r [] 0 → K (some r) g'.h) : opK P .map (Instr.makeMap t none) K g.h := by
  intro w hw
  refine ⟨some w.heap.size, { w with heap := w.heap.push (.map #[] 0) }, ?_, ⟨rfl, rfl, rfl⟩, ?_⟩
  · simp [Instr.makeMap, newObj, Sem.run, Kd.inj]
  · rw [hw]
    exact H _ (g.to _ c) (GH.to_ext c (Ext.push _ _)) ⟨push_last _ _, g.to_new _ _ _ (Nat.le_refl _)⟩

theorem set_C {g : GH} {c r : Nat} {es : List MapEntry} {n : Nat} (x : MapC g c r es n) (es' : List MapEntry) (n' : Nat) : ∃ g' : GH, g'.h = g.h.setIfInBounds r (.map ⟨es'⟩ n') ∧ Mv [c] g g' ∧ MapC g' c r es' n' := by
  have hlt := lt_of_get x.at_
  refine ⟨⟨g.h.setIfInBounds r (.map ⟨es'⟩ n'), g.γ⟩, rfl, ⟨by simp, fun _ _ => rfl, fun b hb hk => ?_⟩, ⟨?_, x.col⟩⟩
  · rw [Array.getElem?_setIfInBounds, if_neg]
    intro e
    subst e
    exact hk (by simp [x.col])
  · rw [Array.getElem?_setIfInBounds]; simp [hlt]

/-- A new key. -/
theorem mapNew_C {t kt e : TypeId} {g : GH} {c r : Nat} {es : List MapEntry} {n : Nat} {key v : Value} (x : MapC g c r es n) (hu : P.underlying t = some (.map kt e)) (hck : ∀ w : World, (Instr.checkKey false 10000 kt key).run P w = .ok () w)
    (hf : ∀ w : World, (Instr.findKey kt key es).run P w = .ok none w) {K : Heap → Prop} (H : ∀ g' : GH, Mv [c] g g' → MapC g' c r (es ++ [{ key := key, val := v, born := n }]) (n + 1) → K g'.h) : unitK P (Instr.mapUpdate t (.map (some r)) key v) K g.h := by
  intro w hw
  obtain ⟨g', hg, m, y⟩ := set_C x (es ++ [{ key := key, val := v, born := n }]) (n + 1)
  have hget : w.heap[r]? = some (.map ⟨es⟩ n) := by rw [hw]; exact x.at_
  refine ⟨{ w with heap := w.heap.setIfInBounds r (.map ⟨es ++ [{ key := key, val := v, born := n }]⟩ (n + 1)) }, ?_, ⟨rfl, rfl, rfl⟩, ?_⟩
  · unfold Instr.mapUpdate
    simp only [Sem.run_bind, run_underlying hu, Result.andThen_ok, run_getObj hget, hck, hf, run_setObj hget]
    simp
  · show K (w.heap.setIfInBounds r (.map ⟨es ++ [{ key := key, val := v, born := n }]⟩ (n + 1)))
    rw [hw, ← hg]
    exact H g' m y

/-- A key that is there. -/
theorem lookup_C {t kt e : TypeId} {k : Kd} {g : GH} {c r : Nat} {es : List MapEntry} {n i : Nat} {key : Value} (y : MapC g c r es n) (hu : P.underlying t = some (.map kt e)) (hck : ∀ (b : Bool) (w : World), (Instr.checkKey b 10000 kt key).run P w = .ok () w)
    (x : k.T) (hf : ∀ w : World, (Instr.findKey kt key es).run P w = .ok (some (i, k.inj x)) w) {K : k.T → Prop} (H : K x) : quietK P k (Instr.lookup t (.map (some r)) key false) K g.h := by
  refine ⟨x, fun w hw => ?_, H⟩
  have hget : w.heap[r]? = some (.map ⟨es⟩ n) := by rw [hw]; exact y.at_
  unfold Instr.lookup
  simp only [Sem.run_bind, Sem.run_pure, run_underlying hu, Result.andThen_ok, run_getObj hget, hck, hf, Bool.false_eq_true, if_false]

/-- A key whose values are told apart by looking. -/
theorem findKey_now {kt : TypeId} {kd : TypeDesc} {key : Value} {es : List MapEntry} {r : Option (Nat × Value)} (hk : P.underlying kt = some kd) (hf : Instr.findNow kd key es 0 = some r) (w : World) : (Instr.findKey kt key es).run P w = .ok r w := by
  unfold Instr.findKey
  simp only [Sem.run_bind, run_underlying hk, Result.andThen_ok, hf, Sem.run_pure]
end
end Go.Ev
