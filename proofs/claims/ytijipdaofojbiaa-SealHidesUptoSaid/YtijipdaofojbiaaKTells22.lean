/-
  The document's coins; what opens coins.
-/
import Derived.Test.YtijipdaofojbiaaKRef22
set_option linter.unusedSimpArgs false
set_option linter.unusedVariables false
namespace Go.Proofs.Ytijipdaofojbiaa
open Go Go.Ev

end Go.Proofs.Ytijipdaofojbiaa
