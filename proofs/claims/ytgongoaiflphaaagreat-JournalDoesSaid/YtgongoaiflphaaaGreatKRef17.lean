/-
  The document's own writer of fields: contracts of its functions.
-/
import Derived.Test.YtgongoaiflphaaaGreatKCodec
import Derived.Test.YtgongoaiflphaaaGreatKFields
import Derived.Test.YtgongoaiflphaaaGreatKApi
set_option linter.unusedSimpArgs false
set_option linter.unusedVariables false
namespace Go.Proofs.YtgongoaiflphaaaGreat
open Go Go.Ev

def refPut (st : Int × List Int) (b : List Int) : Int × List Int := if st.1 ≠ 0 then st else if 65536 < st.2.length + b.length then (3, st.2) else (0, st.2 ++ b)
theorem putAll_take {α : Type} {may : α → Bool} {of : α → List Int} {st : Int × List Int} {xs : List α} {i : Nat} (h : i < xs.length) : putAll may of st (xs.take (i + 1)) = putStep may of (putAll may of st (xs.take i)) xs[i] := by
  unfold putAll
  rw [List.take_succ_eq_append_getElem h, List.foldl_append]; rfl

theorem four_spec (q : GH) (k : Nat) (x : Int) {R : Value → Heap → Prop} (H : ∀ (s : Sl) (q' : GH), Mv [] q q' → OwnC T.uint8 1 q' k s ((fourB x).map byV) → R (.slice s.a s.n s.c) q'.h) : HC Tryz.prog F.ref17_Four #[.int .i64 x] R q.h := by
  refine ref17_Four.calls ?_
  unfold ref17_Four.body
  refine ⟨by decide, by decide, by decide, ?_⟩
  exact newSl_C q k rfl fun s q' m o hn hc => H s q' m o

theorem refPut_yes {α : Type} (of : α → List Int) (st : Int × List Int) (x : α) : refPut st (of x) = putStep yes of st x := by unfold refPut putStep yes; simp

end Go.Proofs.YtgongoaiflphaaaGreat
