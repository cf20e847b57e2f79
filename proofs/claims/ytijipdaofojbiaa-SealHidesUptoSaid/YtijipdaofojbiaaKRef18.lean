/-
  The document's own messages: contracts of its functions.
-/
import Derived.Test.YtijipdaofojbiaaKScribe
import Derived.Test.YtijipdaofojbiaaKRef17
set_option linter.unusedSimpArgs false
set_option linter.unusedVariables false
namespace Go.Proofs.Ytijipdaofojbiaa
open Go Go.Ev

end Go.Proofs.Ytijipdaofojbiaa

/-!
  The document's own messages: their bytes.
-/
namespace Go.Proofs.Ytijipdaofojbiaa
open Go Go.Ev

end Go.Proofs.Ytijipdaofojbiaa
