/-
  The document's coins; what opens coins.
-/
import Derived.Test.YtejjeggaofpbiaaGreatKRef22
set_option linter.unusedSimpArgs false
set_option linter.unusedVariables false
namespace Go.Proofs.YtejjeggaofpbiaaGreat
open Go Go.Ev

theorem tag0_22 (w : World) : (Instr.build T.api_Tag #[]).run Tryz.prog w = .ok (.agg (tagA zero32)) w := by kernel_rfl

end Go.Proofs.YtejjeggaofpbiaaGreat
