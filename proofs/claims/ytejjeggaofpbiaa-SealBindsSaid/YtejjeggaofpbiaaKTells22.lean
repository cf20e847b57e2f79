/-
  The document's coins; what opens coins.
-/
import Derived.Test.YtejjeggaofpbiaaKRef22
set_option linter.unusedSimpArgs false
set_option linter.unusedVariables false
namespace Go.Proofs.Ytejjeggaofpbiaa
open Go Go.Ev

theorem tag0_22 (w : World) : (Instr.build T.api_Tag #[]).run Try.prog w = .ok (.agg (tagA zero32)) w := by kernel_rfl

end Go.Proofs.Ytejjeggaofpbiaa
