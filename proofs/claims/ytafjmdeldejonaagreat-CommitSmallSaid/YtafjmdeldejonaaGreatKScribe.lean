/-
  The package msg: contracts of its functions. What is written.
-/
import Derived.Test.YtafjmdeldejonaaGreatKMsg
import Derived.Test.YtafjmdeldejonaaGreatKFields
import Derived.Test.YtafjmdeldejonaaGreatKFlat
import Derived.Test.YtafjmdeldejonaaGreatMaps
set_option linter.unusedSimpArgs false
set_option linter.unusedVariables false
namespace Go.Proofs.YtafjmdeldejonaaGreat
open Go Go.Ev

/-! ### In plain Lean -/

/-! ### Walks -/

section
variable {g : GH} {kp kb p : Nat} {out : List Int}

end

/-! ### What is written of each body -/

end Go.Proofs.YtafjmdeldejonaaGreat

/-!
  The bytes of entries.
-/
namespace Go.Proofs.YtafjmdeldejonaaGreat
open Go Go.Ev

/-! ### Bytes of entries -/

end Go.Proofs.YtafjmdeldejonaaGreat
