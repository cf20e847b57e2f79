/-
  The package codec: contracts of its functions. Readers.
-/
import Derived.Test.YtafjmdeldejonaaGreatKCodec
set_option linter.unusedSimpArgs false
set_option linter.unusedVariables false
namespace Go.Proofs.YtafjmdeldejonaaGreat
open Go Go.Ev

/-! ### In plain Lean -/

/-! ### Readers -/

/-! ### The same, what comes out being told -/

end Go.Proofs.YtafjmdeldejonaaGreat
