/-
  Whether bytes bear the mark of a table's tags.
-/
import Derived.Test.YtgllngcoclnpeaaGreatKTags
import Derived.Test.YtgllngcoclnpeaaGreatMarks
set_option linter.unusedSimpArgs false
set_option linter.unusedVariables false
namespace Go.Proofs.YtgllngcoclnpeaaGreat
open Go Go.Ev

end Go.Proofs.YtgllngcoclnpeaaGreat
