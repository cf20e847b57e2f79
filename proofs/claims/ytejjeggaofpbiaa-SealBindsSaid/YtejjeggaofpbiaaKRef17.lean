/-
  The document's own writer of fields: contracts of its functions.
-/
import Derived.Test.YtejjeggaofpbiaaKCodec
import Derived.Test.YtejjeggaofpbiaaKFields
import Derived.Test.YtejjeggaofpbiaaKApi
set_option linter.unusedSimpArgs false
set_option linter.unusedVariables false
namespace Go.Proofs.Ytejjeggaofpbiaa
open Go Go.Ev

def refPut (st : Int × List Int) (b : List Int) : Int × List Int := if st.1 ≠ 0 then st else if 65536 < st.2.length + b.length then (3, st.2) else (0, st.2 ++ b)
theorem putAll_take {α : Type} {may : α → Bool} {of : α → List Int} {st : Int × List Int} {xs : List α} {i : Nat} (h : i < xs.length) : putAll may of st (xs.take (i + 1)) = putStep may of (putAll may of st (xs.take i)) xs[i] := by
  unfold putAll
  rw [List.take_succ_eq_append_getElem h, List.foldl_append]; rfl

theorem refPut_yes {α : Type} (of : α → List Int) (st : Int × List Int) (x : α) : refPut st (of x) = putStep yes of st x := by unfold refPut putStep yes; simp

end Go.Proofs.Ytejjeggaofpbiaa
