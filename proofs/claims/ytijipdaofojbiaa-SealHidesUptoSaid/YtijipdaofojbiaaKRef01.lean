/-
  What the functions of the document's own package for the layer 01 answer.
-/
import Derived.Test.YtijipdaofojbiaaKBits
import Derived.Test.YtijipdaofojbiaaKRows
set_option linter.unusedSimpArgs false
set_option linter.unusedVariables false
namespace Go.Proofs.Ytijipdaofojbiaa
open Go Go.Ev

/-- Moved down by n; what comes in is none; a number below nought moves nothing. -/
def shiftB (x : BitVec 32) (n : Int) : BitVec 32 := x >>> n.toNat

theorem Shift_spec (x : BitVec 32) (n : Int) {R : Value → Heap → Prop} {h : Heap} (H : R (wv (shiftB x n)) h) : HC Try.prog F.bits_Shift #[wv x, .int .i64 n] R h := by
  refine bits_Shift.calls ?_
  unfold bits_Shift.body
  refine ⟨by split <;> omega, ?_⟩
  rw [show Int.toNat (if n < 0 then 0 else n) = n.toNat from by split <;> omega, shrBv]
  exact H

end Go.Proofs.Ytijipdaofojbiaa
