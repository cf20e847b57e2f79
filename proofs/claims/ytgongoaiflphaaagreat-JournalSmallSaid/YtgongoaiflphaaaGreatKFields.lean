/-
  Fields that are put and read again, in plain Lean.
-/
import Derived.Test.YtgongoaiflphaaaGreatKReader
set_option linter.unusedSimpArgs false
set_option linter.unusedVariables false
namespace Go.Proofs.YtgongoaiflphaaaGreat
open Go Go.Ev

theorem fdivPos (n : Int) (k : Int) (hk : 0 ≤ k) : Int.fdiv n k = n / k := Int.fdiv_eq_ediv_of_nonneg _ hk
theorem fourB_eq (n : Int) : fourB n = [n / 16777216 % 256, n / 65536 % 256, n / 256 % 256, n % 256] := by
  unfold fourB
  rw [fdivPos _ _ (by decide), fdivPos _ _ (by decide), fdivPos _ _ (by decide), wrapU8_mod, wrapU8_mod, wrapU8_mod, wrapU8_mod]
theorem fourB_byte (n : Int) : ∀ x ∈ fourB n, isByte x := by
  rw [fourB_eq]
  intro x hx
  unfold isByte
  simp only [List.mem_cons, List.not_mem_nil, or_false] at hx
  rcases hx with rfl | rfl | rfl | rfl <;> omega
theorem numOf_fourB {n : Int} (h0 : 0 ≤ n) (h1 : n < 4294967296) : numOf (fourB n) = n := by
  rw [fourB_eq]
  have : ∀ a c d e : Int, numOf [a, c, d, e] = ((a * 256 + c) * 256 + d) * 256 + e := fun a c d e => by simp [numOf]; omega
  rw [this]
  omega
end Go.Proofs.YtgongoaiflphaaaGreat
