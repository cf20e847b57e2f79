/-
  In plain Lean: what a table tells does not hang on what is covered.
-/
import Derived.Test.YtijipdaofojbiaaKCommit
set_option linter.unusedSimpArgs false
set_option linter.unusedVariables false
namespace Go.Proofs.Ytijipdaofojbiaa
open Go Go.Ev

theorem idxIn_none2 {α : Type} [DecidableEq α] {y : α} : ∀ {xs : List α}, idxIn y xs = none ↔ y ∉ xs
  | [] => by simp [idxIn]
  | x :: xs => by
    by_cases e : y = x
    · simp [idxIn, e]
    · simp only [idxIn, if_neg e, Option.map_eq_none_iff, List.mem_cons, not_or]
      exact ⟨fun h => ⟨e, (idxIn_none2 (y := y) (xs := xs)).1 h⟩, fun h => (idxIn_none2 (y := y) (xs := xs)).2 h.2⟩
theorem askT_new {A : List ShThing.T} {x : ShThing.T} (h : x ∉ A) : askT A x = (A.length, A ++ [x]) := by
  unfold askT
  rw [idxIn_none2.2 h]
/-- Lists that are alike but for one thing. -/
def Sim (y z : ShThing.T) (A B : List ShThing.T) : Prop := ∃ P Q : List ShThing.T, A = P ++ y :: Q ∧ B = P ++ z :: Q
theorem idxIn_mid {x y z : ShThing.T} (hy : ¬ x = y) (hz : ¬ x = z) : ∀ P Q : List ShThing.T, idxIn x (P ++ y :: Q) = idxIn x (P ++ z :: Q)
  | [], Q => by simp only [List.nil_append, idxIn, if_neg hy, if_neg hz]
  | p :: P, Q => by
    simp only [List.cons_append, idxIn, idxIn_mid hy hz P Q]
theorem Sim.ask {x y z : ShThing.T} {A B : List ShThing.T} (s : Sim y z A B) (hy : ¬ x = y) (hz : ¬ x = z) : (askT A x).1 = (askT B x).1 ∧ Sim y z (askT A x).2 (askT B x).2 := by
  obtain ⟨P, Q, rfl, rfl⟩ := s
  have h := idxIn_mid hy hz P Q
  unfold askT
  rw [h]
  cases idxIn x (P ++ z :: Q) with
  | some k => exact ⟨rfl, P, Q, rfl, rfl⟩
  | none => exact ⟨by simp, P, Q ++ [x], by simp, by simp⟩

theorem thS_inj {a b : List Int} (ha : ∀ x ∈ a, isByte x) (hb : ∀ x ∈ b, isByte x) (h : thS a = thS b) : a = b := strOf_inj ha hb (congrArg (fun x : ShThing.T => x.2.2.1) h)
/-- A text with a table's nonce behind bears the mark. -/
theorem markT_tail (a b : List Int) (n : Int) (ha : ∀ x ∈ a, isByte x) : markT (a ++ numT n) = true := by
  refine (markT_iff (fun x hx => ?_)).2 ⟨a.length, by simp [numT_length], ?_⟩
  · rcases List.mem_append.1 hx with h | h
    · exact ha x h
    · exact numT_byte n x h
  · rw [List.drop_left]
    rfl
end Go.Proofs.Ytijipdaofojbiaa
