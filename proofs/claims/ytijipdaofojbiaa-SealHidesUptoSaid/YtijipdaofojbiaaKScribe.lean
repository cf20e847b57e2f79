/-
  The package msg: contracts of its functions. What is written.
-/
import Derived.Test.YtijipdaofojbiaaKMsg
import Derived.Test.YtijipdaofojbiaaKFields
import Derived.Test.YtijipdaofojbiaaKFlat
import Derived.Test.YtijipdaofojbiaaMaps
set_option linter.unusedSimpArgs false
set_option linter.unusedVariables false
namespace Go.Proofs.Ytijipdaofojbiaa
open Go Go.Ev

/-! ### In plain Lean -/

/-! ### Walks -/

section
variable {g : GH} {kp kb p : Nat} {out : List Int}

end

/-! ### What is written of each body -/

end Go.Proofs.Ytijipdaofojbiaa

/-!
  The bytes of entries.
-/
namespace Go.Proofs.Ytijipdaofojbiaa
open Go Go.Ev

/-! ### Bytes of entries -/

end Go.Proofs.Ytijipdaofojbiaa
