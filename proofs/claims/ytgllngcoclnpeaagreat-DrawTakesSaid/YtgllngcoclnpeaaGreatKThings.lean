/-
  In plain Lean: what a table was asked.
-/
import Derived.Test.YtgllngcoclnpeaaGreatKTags
set_option linter.unusedSimpArgs false
set_option linter.unusedVariables false
namespace Go.Proofs.YtgllngcoclnpeaaGreat
open Go Go.Ev

/-! ### Strings, numbers -/

/-! ### What a table was asked -/

end Go.Proofs.YtgllngcoclnpeaaGreat
