/-
  The document's own writer of fields: contracts of its functions.
-/
import Derived.Test.YtafjmdeldejonaaGreatKCodec
import Derived.Test.YtafjmdeldejonaaGreatKFields
import Derived.Test.YtafjmdeldejonaaGreatKApi
set_option linter.unusedSimpArgs false
set_option linter.unusedVariables false
namespace Go.Proofs.YtafjmdeldejonaaGreat
open Go Go.Ev

end Go.Proofs.YtafjmdeldejonaaGreat
