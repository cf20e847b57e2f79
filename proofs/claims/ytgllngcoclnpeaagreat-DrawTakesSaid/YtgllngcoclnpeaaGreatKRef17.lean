/-
  The document's own writer of fields: contracts of its functions.
-/
import Derived.Test.YtgllngcoclnpeaaGreatKCodec
import Derived.Test.YtgllngcoclnpeaaGreatKFields
import Derived.Test.YtgllngcoclnpeaaGreatKApi
set_option linter.unusedSimpArgs false
set_option linter.unusedVariables false
namespace Go.Proofs.YtgllngcoclnpeaaGreat
open Go Go.Ev

end Go.Proofs.YtgllngcoclnpeaaGreat
