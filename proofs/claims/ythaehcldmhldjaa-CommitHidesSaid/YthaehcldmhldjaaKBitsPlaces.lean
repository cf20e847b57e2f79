/-
  The law BitsPlaces: what it answers.
-/
import Derived.Test.YthaehcldmhldjaaKWords
import Derived.Test.YthaehcldmhldjaaKBitsRules
set_option linter.unusedSimpArgs false
set_option linter.unusedVariables false
namespace Go.Proofs.Ythaehcldmhldjaa
open Go Go.Ev

theorem wv_limbs (ws : List (BitVec 32)) : ws.map wv = (ws.map fun w => (w.toNat : Int)).map valLimbs := by simp

end Go.Proofs.Ythaehcldmhldjaa
