/-
  The document's own digest: contracts of its functions.
-/
import Derived.Test.YtijipdaofojbiaaKDigest
set_option linter.unusedSimpArgs false
set_option linter.unusedVariables false
namespace Go.Proofs.Ytijipdaofojbiaa
open Go Go.Ev

end Go.Proofs.Ytijipdaofojbiaa
