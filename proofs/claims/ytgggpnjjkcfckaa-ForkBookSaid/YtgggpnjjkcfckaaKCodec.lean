/-
  The package codec: contracts of its functions. Writers.
-/
import Derived.Test.YtgggpnjjkcfckaaKTag
import Derived.Test.YtgggpnjjkcfckaaConv
import Derived.Test.YtgggpnjjkcfckaaKSlices
set_option linter.unusedSimpArgs false
set_option linter.unusedVariables false
namespace Go.Proofs.Ytgggpnjjkcfckaa
open Go Go.Ev

/-! ### In plain Lean -/

/-- A field is put. -/
def putStep {α : Type} (may : α → Bool) (of : α → List Int) (st : Int × List Int) (x : α) : Int × List Int :=
  if st.1 ≠ 0 then st else if may x = false then (2, st.2) else if 65536 < st.2.length + (of x).length then (3, st.2) else (0, st.2 ++ of x)
def putAll {α : Type} (may : α → Bool) (of : α → List Int) (st : Int × List Int) (xs : List α) : Int × List Int := xs.foldl (putStep may of) st
theorem putAll_nil {α : Type} {may : α → Bool} {of : α → List Int} {st : Int × List Int} : putAll may of st [] = st := rfl
theorem putAll_cons {α : Type} {may : α → Bool} {of : α → List Int} {st : Int × List Int} {x : α} {xs : List α} : putAll may of st (x :: xs) = putAll may of (putStep may of st x) xs := rfl
theorem putStep_err {α : Type} {may : α → Bool} {of : α → List Int} {st : Int × List Int} (h : st.1 ≠ 0) (x : α) : putStep may of st x = st := by unfold putStep; rw [if_pos h]
theorem putAll_err {α : Type} {may : α → Bool} {of : α → List Int} {st : Int × List Int} (h : st.1 ≠ 0) : ∀ xs : List α, putAll may of st xs = st
  | [] => rfl
  | x :: xs => by rw [putAll_cons, putStep_err h, putAll_err h xs]

def within (most x : Int) : Bool := decide (0 ≤ x ∧ x ≤ most)
/-- A number's byte, its four bytes. -/
def oneB (n : Int) : List Int := [IntKind.u8.wrap n]
def fourB (n : Int) : List Int := [IntKind.u8.wrap (Int.fdiv n 16777216), IntKind.u8.wrap (Int.fdiv n 65536), IntKind.u8.wrap (Int.fdiv n 256), IntKind.u8.wrap n]
def runB (b : List Int) : List Int := fourB (b.length : Nat) ++ b
theorem fourB_length (n : Int) : (fourB n).length = 4 := rfl

/-! ### Writers -/

/-- A function that makes a number's bytes. -/
def OfI (fo : FuncId) (of : Int → List Int) : Prop := ∀ (q : GH) (k : Nat) (x : Int) (R : Value → Heap → Prop), (∀ (s : Sl) (q' : GH), Mv [] q q' → OwnC T.uint8 1 q' k s ((of x).map byV) → R (.slice s.a s.n s.c) q'.h) → HC Try.prog fo #[.int .i64 x] R q.h
/-- A tag's bytes. -/
def tagB (t : List Int) : List Int := t
/-- No rule. -/
def yes {α : Type} (_ : α) : Bool := true

/-! ### The writer's methods -/

end Go.Proofs.Ytgggpnjjkcfckaa
