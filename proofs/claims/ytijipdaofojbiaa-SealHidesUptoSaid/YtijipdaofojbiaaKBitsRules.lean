/-
  The law BitsRules: it answers true, and makes new memory alone.
-/
import Derived.Test.YtijipdaofojbiaaKBits
set_option linter.unusedSimpArgs false
set_option linter.unusedVariables false
namespace Go.Proofs.Ytijipdaofojbiaa
open Go Go.Ev

end Go.Proofs.Ytijipdaofojbiaa
