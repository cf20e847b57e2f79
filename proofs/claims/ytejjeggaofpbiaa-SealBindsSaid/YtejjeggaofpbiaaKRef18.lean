/-
  The document's own messages: contracts of its functions.
-/
import Derived.Test.YtejjeggaofpbiaaKScribe
import Derived.Test.YtejjeggaofpbiaaKRef17
set_option linter.unusedSimpArgs false
set_option linter.unusedVariables false
namespace Go.Proofs.Ytejjeggaofpbiaa
open Go Go.Ev

theorem build_Body1 (n : Int) (w : World) : (Instr.build T.api_Body #[(0, .int .i64 n)]).run Try.prog w = .ok (.agg ⟨ShBody.enc (n, move0, false, 0, zero32, zero32, ())⟩) w := by kernel_rfl

end Go.Proofs.Ytejjeggaofpbiaa

/-!
  The document's own messages: their bytes.
-/
namespace Go.Proofs.Ytejjeggaofpbiaa
open Go Go.Ev

end Go.Proofs.Ytejjeggaofpbiaa
