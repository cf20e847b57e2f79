/-
  The package of keyed digests, and the document's own: contracts of its functions.
-/
import Derived.Test.YtijipdaofojbiaaKRef02
import Derived.Test.YtijipdaofojbiaaFlat
import Derived.Test.YtijipdaofojbiaaBuild
set_option linter.unusedSimpArgs false
set_option linter.unusedVariables false
namespace Go.Proofs.Ytijipdaofojbiaa
open Go Go.Ev

/-! ### In plain Lean -/

def turnB (m b : Int) : Int := IntKind.u8.wrap ((BitVec.ofInt (IntKind.bits .u8) b ^^^ BitVec.ofInt (IntKind.bits .u8) m).toNat : Int)
theorem wrapIsByte (n : Int) : isByte (IntKind.u8.wrap n) := by
  simp only [IntKind.wrap, IntKind.bits, IntKind.signed]; unfold isByte; simp; omega
/-! ### The package -/

end Go.Proofs.Ytijipdaofojbiaa
