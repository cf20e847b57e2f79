/-
  The law BitsPlaces: what it answers.
-/
import Derived.Test.YtgongoaiflphaaaKWords
import Derived.Test.YtgongoaiflphaaaKBitsRules
set_option linter.unusedSimpArgs false
set_option linter.unusedVariables false
namespace Go.Proofs.Ytgongoaiflphaaa
open Go Go.Ev

theorem wv_limbs (ws : List (BitVec 32)) : ws.map wv = (ws.map fun w => (w.toNat : Int)).map valLimbs := by simp

end Go.Proofs.Ytgongoaiflphaaa
