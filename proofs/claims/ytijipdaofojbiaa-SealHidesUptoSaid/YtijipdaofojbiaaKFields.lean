/-
  Fields that are put and read again, in plain Lean.
-/
import Derived.Test.YtijipdaofojbiaaKReader
set_option linter.unusedSimpArgs false
set_option linter.unusedVariables false
namespace Go.Proofs.Ytijipdaofojbiaa
open Go Go.Ev

end Go.Proofs.Ytijipdaofojbiaa
