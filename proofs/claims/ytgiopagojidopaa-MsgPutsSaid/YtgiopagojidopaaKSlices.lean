/-
  Functions of the library's package slices, on bytes.
-/
import Derived.Test.YtgiopagojidopaaKKit
import Derived.Test.YtgiopagojidopaaGrow
set_option linter.unusedSimpArgs false
set_option linter.unusedVariables false
namespace Go.Proofs.Ytgiopagojidopaa
open Go Go.Ev

end Go.Proofs.Ytgiopagojidopaa
