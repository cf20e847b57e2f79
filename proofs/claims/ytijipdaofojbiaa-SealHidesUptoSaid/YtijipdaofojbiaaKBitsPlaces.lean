/-
  The law BitsPlaces: what it answers.
-/
import Derived.Test.YtijipdaofojbiaaKWords
import Derived.Test.YtijipdaofojbiaaKBitsRules
set_option linter.unusedSimpArgs false
set_option linter.unusedVariables false
namespace Go.Proofs.Ytijipdaofojbiaa
open Go Go.Ev

end Go.Proofs.Ytijipdaofojbiaa
