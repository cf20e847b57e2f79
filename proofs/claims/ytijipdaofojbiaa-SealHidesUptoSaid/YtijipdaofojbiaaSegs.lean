/-
  A structure built of its parts: each part's cells take the place of the zero's. Nothing of a given program stands here.
-/
import Derived.Test.YtijipdaofojbiaaBuild
set_option linter.unusedSimpArgs false
set_option linter.unusedVariables false
namespace Go.Ev
open Go

def placesOf : Nat → List (List Value) → List (Nat × Nat)
  | _, [] => []
  | o, s :: ss => (o, s.length) :: placesOf (o + s.length) ss
theorem placesOf_get : ∀ (segs : List (List Value)) (o i : Nat) (s : List Value), segs[i]? = some s → (placesOf o segs)[i]? = some (o + (segs.take i).flatten.length, s.length)
  | [], o, i, s, h => by simp at h
  | x :: xs, o, 0, s, h => by simp at h; subst h; simp [placesOf]
  | x :: xs, o, i + 1, s, h => by
    simp only [List.getElem?_cons_succ] at h
    simp only [placesOf, List.getElem?_cons_succ, List.take_succ_cons, List.flatten_cons, List.length_append]
    rw [placesOf_get xs _ i s h, Nat.add_assoc]
theorem placesOf_set : ∀ (segs : List (List Value)) (o i : Nat) (s s' : List Value), segs[i]? = some s → s'.length = s.length → placesOf o (segs.set i s') = placesOf o segs
  | [], o, i, s, s', h, _ => by simp at h
  | x :: xs, o, 0, s, s', h, e => by simp at h; subst h; simp [placesOf, e]
  | x :: xs, o, i + 1, s, s', h, e => by
    simp only [List.getElem?_cons_succ] at h
    simp only [List.set_cons_succ, placesOf, placesOf_set xs _ i s s' h e]
theorem seg_over (segs : List (List Value)) (i : Nat) (s new : List Value) (h : segs[i]? = some s) (hn : new.length = s.length) : overA ⟨segs.flatten⟩ (segs.take i).flatten.length new = ⟨(segs.set i new).flatten⟩ := by
  have hi := (List.getElem?_eq_some_iff.1 h).1
  have hs := (List.getElem?_eq_some_iff.1 h).2
  have e1 : segs = segs.take i ++ s :: segs.drop (i + 1) := by
    rw [← hs, ← List.drop_eq_getElem_cons hi, List.take_append_drop]
  have e2 : segs.set i new = segs.take i ++ new :: segs.drop (i + 1) := by rw [List.set_eq_take_append_cons_drop, if_pos hi]
  have e3 : segs.flatten = (segs.take i).flatten ++ (s ++ (segs.drop (i + 1)).flatten) := by
    conv => lhs; rw [e1]
    simp
  rw [e2]
  unfold overA
  rw [e3]
  simp only [List.flatten_append, List.flatten_cons]
  rw [List.take_left, hn]
  have : ((segs.take i).flatten ++ (s ++ (segs.drop (i + 1)).flatten)).drop ((segs.take i).flatten.length + s.length) = (segs.drop (i + 1)).flatten := by
    rw [← List.append_assoc, ← List.length_append, List.drop_left]
  rw [this]
  simp
theorem seg_fill : ∀ (parts : List (Nat × Value)) (segs : List (List Value)), (∀ p ∈ parts, ∃ s, segs[p.1]? = some s ∧ p.2.cells.size = s.length) →
    fillA ((⟨placesOf 0 segs⟩ : Array (Nat × Nat))[·]?) ⟨segs.flatten⟩ parts = some ⟨(parts.foldl (fun ss p => ss.set p.1 p.2.cells.toList) segs).flatten⟩
  | [], segs, _ => rfl
  | (i, v) :: rest, segs, h => by
    obtain ⟨s, h1, h2⟩ := h (i, v) (by simp)
    have hi := (List.getElem?_eq_some_iff.1 h1).1
    have hs := (List.getElem?_eq_some_iff.1 h1).2
    have hp : (⟨placesOf 0 segs⟩ : Array (Nat × Nat))[i]? = some ((segs.take i).flatten.length, s.length) := by
      have := placesOf_get segs 0 i s h1
      simpa using this
    have hl : (segs.take i).flatten.length + s.length ≤ segs.flatten.length := by
      have e1 : segs = segs.take i ++ s :: segs.drop (i + 1) := by rw [← hs, ← List.drop_eq_getElem_cons hi, List.take_append_drop]
      conv => rhs; rw [e1]
      simp
    rw [fillA]
    simp only [hp]
    have h2' : v.cells.size = s.length := h2
    rw [if_neg (by
      rw [h2']
      simp only [ne_eq, not_true_eq_false, decide_false, Bool.false_or, decide_eq_true_eq, Nat.not_lt, gt_iff_lt, List.size_toArray]
      exact hl)]
    have ho := seg_over segs i s v.cells.toList h1 (by simpa using h2)
    rw [ho]
    have ih := seg_fill rest (segs.set i v.cells.toList) fun p hp => by
      obtain ⟨s', h3, h4⟩ := h p (by simp [hp])
      by_cases e : i = p.1
      · subst e
        rw [h1] at h3
        cases h3
        exact ⟨v.cells.toList, by rw [List.getElem?_set_self hi], by rw [h4, ← h2]; simp⟩
      · exact ⟨s', by rw [List.getElem?_set_ne e]; exact h3, h4⟩
    rw [placesOf_set segs 0 i s _ h1 (by simpa using h2)] at ih
    exact ih
theorem build_segs {P : Program} {t : TypeId} {fs : Array Field} {parts : Array (Nat × Value)} (segs : List (List Value)) (hu : P.underlying t = some (.struct fs)) (hz : ∀ w : World, (zeroValue t).run P w = .ok (.agg ⟨segs.flatten⟩) w)
    (hp : ∀ w : World, (fs.mapM fun f => do pure (f.offset, ← sizeOf f.type) : Sem (Array (Nat × Nat))).run P w = .ok ⟨placesOf 0 segs⟩ w) (h : ∀ p ∈ parts.toList, ∃ s, segs[p.1]? = some s ∧ p.2.cells.size = s.length) (w : World) :
    (Instr.build t parts).run P w = .ok (.agg ⟨(parts.toList.foldl (fun ss p => ss.set p.1 p.2.cells.toList) segs).flatten⟩) w :=
  build_struct hu hz hp (seg_fill _ _ h) w
end Go.Ev
