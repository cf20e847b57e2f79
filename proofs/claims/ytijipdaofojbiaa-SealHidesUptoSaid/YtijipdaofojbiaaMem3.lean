/-
  'append' to a row that has no room: a new row. Nothing of a given program stands here.
-/
import Derived.Test.YtijipdaofojbiaaCol
set_option linter.unusedSimpArgs false
set_option linter.unusedVariables false
namespace Go.Ev
open Go

section
variable {P : Program}

end
end Go.Ev
