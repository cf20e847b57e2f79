/-
  The document's own writer of fields: contracts of its functions.
-/
import Derived.Test.YtgongoaiflphaaaGreatKCodec
import Derived.Test.YtgongoaiflphaaaGreatKFields
import Derived.Test.YtgongoaiflphaaaGreatKApi
set_option linter.unusedSimpArgs false
set_option linter.unusedVariables false
namespace Go.Proofs.YtgongoaiflphaaaGreat
open Go Go.Ev

theorem four_spec (q : GH) (k : Nat) (x : Int) {R : Value → Heap → Prop} (H : ∀ (s : Sl) (q' : GH), Mv [] q q' → OwnC T.uint8 1 q' k s ((fourB x).map byV) → R (.slice s.a s.n s.c) q'.h) : HC Tryz.prog F.ref17_Four #[.int .i64 x] R q.h := by
  refine ref17_Four.calls ?_
  unfold ref17_Four.body
  refine ⟨by decide, by decide, by decide, ?_⟩
  exact newSl_C q k rfl fun s q' m o hn hc => H s q' m o

end Go.Proofs.YtgongoaiflphaaaGreat
