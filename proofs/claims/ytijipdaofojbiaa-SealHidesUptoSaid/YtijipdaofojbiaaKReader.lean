/-
  The package codec: contracts of its functions. Readers.
-/
import Derived.Test.YtijipdaofojbiaaKCodec
set_option linter.unusedSimpArgs false
set_option linter.unusedVariables false
namespace Go.Proofs.Ytijipdaofojbiaa
open Go Go.Ev

/-! ### In plain Lean -/

/-! ### Readers -/

/-! ### The same, what comes out being told -/

end Go.Proofs.Ytijipdaofojbiaa
