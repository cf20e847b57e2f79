/-
  Functions of the library's package slices, on bytes.
-/
import Derived.Test.YtgggpnjjkcfckaaKKit
import Derived.Test.YtgggpnjjkcfckaaGrow
set_option linter.unusedSimpArgs false
set_option linter.unusedVariables false
namespace Go.Proofs.Ytgggpnjjkcfckaa
open Go Go.Ev

end Go.Proofs.Ytgggpnjjkcfckaa
