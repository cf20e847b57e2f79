/-
  A row of bytes as a row of bytes again (a conversion to its own type). Nothing of a given program stands here.
-/
import Derived.Test.YtijipdaofojbiaaLay
set_option linter.unusedSimpArgs false
set_option linter.unusedVariables false
namespace Go.Ev
open Go

theorem heap_freeze (w : World) (a : Addr) {h : Heap} (hw : w.heap = h) {c : Array Value} {e : TypeId} {fz : Nat × Nat} (hb : h[a.block]? = some (.cells c e fz)) :
    ∃ fz', (w.freeze a 1).heap = h.setIfInBounds a.block (.cells c e fz') := by
  subst hw
  obtain ⟨lo, hi⟩ := fz
  refine ⟨if lo == hi then (a.off, a.off + 1) else (min lo a.off, max hi (a.off + 1)), ?_⟩
  have hlt := lt_of_get hb
  unfold World.freeze
  rw [if_neg (by decide)]
  dsimp only
  apply Array.ext_getElem?
  intro i
  rw [Array.getElem?_modify, Array.getElem?_setIfInBounds]
  by_cases h : a.block = i
  · subst h
    rw [if_pos rfl, if_pos rfl, hb]
    simp [hlt]
  · rw [if_neg h, if_neg h]

theorem conv_C {P : Program} {t e : TypeId} (hu : P.underlying t = some (.slice e)) (he : P.underlying e = some (.int .u8)) {E : TypeId} {g : GH} {c : Nat} {s : Sl} {vs : List Value} (o : OwnC E 1 g c s vs) (hne : vs ≠ []) {K : Sl → Heap → Prop}
    (H : ∀ g' : GH, Mv [c] g g' → (∀ (z k : Nat) (s' : Sl) (vs' : List Value), RdC z g k s' vs' → RdC z g' k s' vs') → K s g'.h) : opK P .slice (convert t t (.slice s.a s.n s.c)) K g.h := by
  intro w hw
  obtain ⟨hl, hd⟩ := o.own.rd
  rcases hd with h0 | ⟨b, off, cs, E', fz, ha, hb, hcs⟩
  · exact absurd h0 hne
  obtain ⟨fz', hf⟩ := heap_freeze w { block := b, off := cs.size } hw hb
  have hlt := lt_of_get hb
  have hcol : g.γ b = c := o.col b (by simp [Sl.blk, ha])
  have hget : (g.h.setIfInBounds b (Obj.cells cs E' fz'))[b]? = some (.cells cs E' fz') := by rw [Array.getElem?_setIfInBounds]; simp [hlt]
  refine ⟨s, w.freeze { block := b, off := cs.size } 1, ?_, ⟨rfl, rfl, rfl⟩, ?_⟩
  · unfold convert markStringish
    simp only [Sem.run_bind, run_underlying hu, run_underlying he, Result.andThen_ok, ha]
    have hs : (shape b).run P w = .ok (some (E', cs.size)) w := by
      simp only [shape, Sem.run, World.shape?, hw, hb]
    simp only [beq_self_eq_true, Sem.run_bind, hs, Result.andThen_ok, freeze, Sem.run, Sem.run_pure, Kd.inj]
    simp [ha]
  · rw [hf]
    have hset : ∀ i, i ≠ b → (g.h.setIfInBounds b (Obj.cells cs E' fz'))[i]? = g.h[i]? := fun i hi => by rw [Array.getElem?_setIfInBounds, if_neg (Ne.symm hi)]
    refine H ⟨g.h.setIfInBounds b (.cells cs E' fz'), g.γ⟩ ⟨by simp, fun _ _ => rfl, fun i hi hk => ?_⟩ fun z k s' vs' r => ⟨⟨r.rd.1, ?_⟩, ?_⟩
    · refine hset i fun hbi => ?_
      subst hbi
      exact hk (by simp [hcol])
    · rcases r.rd.2 with h0 | ⟨b1, o1, cs1, E1, fz1, ha1, hb1, hc1⟩
      · exact .inl h0
      · by_cases h : b1 = b
        · subst h
          rw [hb] at hb1
          cases hb1
          exact .inr ⟨b1, o1, cs, E', fz', ha1, hget, hc1⟩
        · exact .inr ⟨b1, o1, cs1, E1, fz1, ha1, (hset b1 h).trans hb1, hc1⟩
    · rcases r.col with h0 | ⟨b1, h1, h2, h3⟩
      · exact .inl h0
      · exact .inr ⟨b1, h1, by simpa using h2, h3⟩

/-! ### Rows -/

theorem RowsC.take {g : GH} {c : Nat} {s : Sl} {xss : List (List Int)} (r : RowsC g c s xss) {n k : Nat} (hn : n ≤ xss.length) : RowsC g c ⟨s.a, n, k⟩ (xss.take n) := by
  obtain ⟨sls, h1, h2, h3⟩ := r
  refine .of (sls := sls.take n) ?_ (by simp [h2]) fun i sl xs a b => ?_
  · rw [List.map_take]; exact h1.take (by simpa [h2] using hn)
  · have hi : i < n := by have := (List.getElem?_eq_some_iff.1 a).1; simp at this; omega
    rw [List.getElem?_take_of_lt hi] at a b
    exact h3 i sl xs a b

theorem RowsC.plain {g : GH} {c : Nat} {s : Sl} {xss : List (List Int)} (r : RowsC g c s xss) (hne : xss ≠ []) : s.plain := by
  obtain ⟨sls, h1, h2, h3⟩ := r
  exact h1.rd.plain (by intro e; rw [List.map_eq_nil_iff] at e; subst e; exact hne (List.length_eq_zero_iff.1 h2.symm))


end Go.Ev
