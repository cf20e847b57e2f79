/-
  The bytes of any message, of any entry.
-/
import Derived.Test.YtobdneijofchkaaKMsgPut
set_option linter.unusedSimpArgs false
set_option linter.unusedVariables false
namespace Go.Proofs.Ytobdneijofchkaa
open Go Go.Ev

def bytesIf (b : Bool) (l : List Int) : List Int := if b = true then l else []
def errIf (b : Bool) : Int := if b = true then 0 else 2
theorem putEntry_any (g : GH) (c : Nat) (x : EntryT) (ok : ShEntry.ok x) {R : Value → Heap → Prop} (H : ∀ (s : Sl) (g' : GH), Mv [] g g' → RdC 1 g' c s ((bytesIf (entryOk x) (entryB x)).map byV) → s.n ≤ s.c → R (.tuple #[.slice s.a s.n s.c, .int .i64 (errIf (entryOk x))]) g'.h) : HC Try.prog F.msg_PutEntry #[.agg ⟨ShEntry.enc x⟩] R g.h := by
  refine putEntry_spec g c x ok (fun h s g' m o => ?_) (fun h g' m => ?_)
  · have := H s g' m (by rw [h]; exact o.rd) o.cap
    rw [h] at this; exact this
  · have := H ⟨none, 0, 0⟩ g' m (by rw [h]; exact RdC.nil _ _ _ _ _) (Nat.le_refl _)
    rw [h] at this; exact this

end Go.Proofs.Ytobdneijofchkaa
