/-
  Fields that are put and read again, in plain Lean.
-/
import Derived.Test.YtafjmdeldejonaaGreatKReader
set_option linter.unusedSimpArgs false
set_option linter.unusedVariables false
namespace Go.Proofs.YtafjmdeldejonaaGreat
open Go Go.Ev

end Go.Proofs.YtafjmdeldejonaaGreat
