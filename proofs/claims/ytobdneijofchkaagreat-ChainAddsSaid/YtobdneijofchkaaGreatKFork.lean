/-
  Two rows of entries held against each other: fork's Compare.
-/
import Derived.Test.YtobdneijofchkaaGreatIter
import Derived.Test.YtobdneijofchkaaGreatKEntries
set_option linter.unusedSimpArgs false
set_option linter.unusedVariables false
namespace Go.Proofs.YtobdneijofchkaaGreat
open Go Go.Ev

/-- Where two rows part, or how long the shorter one is. -/
def partAt {α : Type} [DecidableEq α] : List α → List α → Nat
  | x :: xs, y :: ys => if x = y then partAt xs ys + 1 else 0
  | _, _ => 0
theorem partAt_le {α : Type} [DecidableEq α] : ∀ (xs ys : List α), partAt xs ys ≤ min xs.length ys.length
  | [], ys => by simp [partAt]
  | x :: xs, [] => by simp [partAt]
  | x :: xs, y :: ys => by
    have := partAt_le xs ys
    simp only [partAt, List.length_cons]
    split <;> omega
theorem partAt_take {α : Type} [DecidableEq α] : ∀ (xs ys : List α), xs.take (partAt xs ys) = ys.take (partAt xs ys)
  | [], ys => by simp [partAt]
  | x :: xs, [] => by simp [partAt]
  | x :: xs, y :: ys => by
    simp only [partAt]
    split
    · rename_i h; subst h; simp [partAt_take xs ys]
    · simp
theorem partAt_ne {α : Type} [DecidableEq α] : ∀ (xs ys : List α), partAt xs ys < min xs.length ys.length → xs[partAt xs ys]? ≠ ys[partAt xs ys]?
  | [], ys, h => by simp at h
  | x :: xs, [], h => by simp at h
  | x :: xs, y :: ys, h => by
    simp only [partAt] at h ⊢
    split
    · rename_i hx
      rw [if_pos hx] at h
      simp only [List.length_cons] at h
      simpa using partAt_ne xs ys (by omega)
    · rename_i hx; simpa using hx
/-- It is the one place up to which they are the same, and there they are not. -/
theorem partAt_eq {α : Type} [DecidableEq α] {xs ys : List α} {i : Nat} (h1 : xs.take i = ys.take i) (h2 : i ≤ min xs.length ys.length) (h3 : i < min xs.length ys.length → xs[i]? ≠ ys[i]?) : partAt xs ys = i := by
  rcases Nat.lt_trichotomy (partAt xs ys) i with h | h | h
  · exfalso
    refine partAt_ne xs ys (by omega) ?_
    rw [← List.getElem?_take_of_lt h, h1, List.getElem?_take_of_lt h]
  · exact h
  · exfalso
    have := partAt_le xs ys
    refine h3 (by omega) ?_
    have ht := partAt_take xs ys
    rw [← List.getElem?_take_of_lt h, ht, List.getElem?_take_of_lt h]

/-- How two rows stand, and where they part. -/
def compareT {α : Type} [DecidableEq α] (xs ys : List α) : Int × Nat :=
  if partAt xs ys < min xs.length ys.length then (4, partAt xs ys)
  else if xs.length < ys.length then (2, partAt xs ys)
  else if ys.length < xs.length then (3, partAt xs ys)
  else (1, partAt xs ys)

theorem szEnt : sizeOfT Tryz.prog T.api_Entry = 135 := by kernel_rfl

def cmpI (x y : Int) : Int := if x < y then -1 else if x > y then 1 else 0
theorem intAt (p : Option Addr) : doesLoad Tryz.prog T.int (.pointer p) = .quietP fun h K => loadK (.int .i64) h p fun x => K (.int .i64 x) := by kernel_rfl

end Go.Proofs.YtobdneijofchkaaGreat
