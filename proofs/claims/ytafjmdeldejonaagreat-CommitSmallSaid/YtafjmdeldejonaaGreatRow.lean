/-
  From the given statement's words for a row of numbers to this library's.
-/
import Derived.Test.YtafjmdeldejonaaGreatMem
import Derived.WalkKit
import Derived.ProofKit
import Derived.OpenShut
import Derived.ChangeOld
import Derived.SizedLaws
set_option linter.unusedVariables false
namespace Go.Ev
open Go

end Go.Ev
