/-
  The document's own writer of fields: contracts of its functions.
-/
import Derived.Test.YtijipdaofojbiaaKCodec
import Derived.Test.YtijipdaofojbiaaKFields
import Derived.Test.YtijipdaofojbiaaKApi
set_option linter.unusedSimpArgs false
set_option linter.unusedVariables false
namespace Go.Proofs.Ytijipdaofojbiaa
open Go Go.Ev

end Go.Proofs.Ytijipdaofojbiaa
