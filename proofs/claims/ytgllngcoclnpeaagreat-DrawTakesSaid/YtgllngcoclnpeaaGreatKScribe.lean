/-
  The package msg: contracts of its functions. What is written.
-/
import Derived.Test.YtgllngcoclnpeaaGreatKMsg
import Derived.Test.YtgllngcoclnpeaaGreatKFields
import Derived.Test.YtgllngcoclnpeaaGreatKFlat
import Derived.Test.YtgllngcoclnpeaaGreatMaps
set_option linter.unusedSimpArgs false
set_option linter.unusedVariables false
namespace Go.Proofs.YtgllngcoclnpeaaGreat
open Go Go.Ev

/-! ### In plain Lean -/

/-! ### Walks -/

section
variable {g : GH} {kp kb p : Nat} {out : List Int}

end

/-! ### What is written of each body -/

end Go.Proofs.YtgllngcoclnpeaaGreat

/-!
  The bytes of entries.
-/
namespace Go.Proofs.YtgllngcoclnpeaaGreat
open Go Go.Ev

/-! ### Bytes of entries -/

end Go.Proofs.YtgllngcoclnpeaaGreat
