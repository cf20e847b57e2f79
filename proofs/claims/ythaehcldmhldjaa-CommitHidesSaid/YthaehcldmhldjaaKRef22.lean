/-
  The document's covers; what opens them.
-/
import Derived.Test.YthaehcldmhldjaaKCoin
import Derived.Test.YthaehcldmhldjaaKRef02
import Derived.Test.YthaehcldmhldjaaMem3
set_option linter.unusedSimpArgs false
set_option linter.unusedVariables false
namespace Go.Proofs.Ythaehcldmhldjaa
open Go Go.Ev

/-- A real maker of the document's. -/
def Mk22 (g : GH) (c p : Nat) : Prop := ∃ (cells : Array Value) (e : TypeId), BlkC g c p cells e ∧ cells[0]? = some (.bool true)
theorem Mk22.mv {K : List Nat} {g g' : GH} {c p : Nat} (x : Mk22 g c p) (m : Mv K g g') (hk : c ∉ K) : Mk22 g' c p := by
  obtain ⟨cells, e, b, h⟩ := x
  exact ⟨cells, e, b.mv m hk, h⟩
theorem Mk22.base {g : GH} {c p : Nat} (x : Mk22 g c p) : Mk22 g.base 0 p := by
  obtain ⟨cells, e, b, h⟩ := x
  exact ⟨cells, e, b.base, h⟩
/-! ### What opens a cover -/

def fitsT (t u : List Int) (e : Int) : Int := if ¬ e = 0 then e else if t = u then 0 else 7
end Go.Proofs.Ythaehcldmhldjaa
