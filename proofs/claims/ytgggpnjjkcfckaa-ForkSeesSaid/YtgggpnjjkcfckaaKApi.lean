/-
  The api's data: moves, bodies, entries, messages, as shapes.
-/
import Derived.Test.YtgggpnjjkcfckaaKTag
import Derived.Test.YtgggpnjjkcfckaaFlatRow
set_option linter.unusedSimpArgs false
set_option linter.unusedVariables false
namespace Go.Proofs.Ytgggpnjjkcfckaa
open Go Go.Ev

abbrev ShMove : Sh := .pair (.int .i64) (.pair (.int .i64) (.pair (.int .i64) .unit))
abbrev ShBody : Sh := .pair (.int .i64) (.pair ShMove (.pair .bool (.pair (.int .i64) (.pair ShTag (.pair ShTag .unit)))))
abbrev ShEntry : Sh := .pair ShTag (.pair (.int .i64) (.pair ShTag (.pair ShBody .unit)))
abbrev ShMsg : Sh := .pair (.int .i64) (.pair ShTag (.pair (.int .i64) (.pair ShTag (.pair (.int .i64) (.pair ShTag (.pair ShEntry .unit))))))

abbrev MoveT := Int × Int × Int × Unit
abbrev BodyT := Int × MoveT × Bool × Int × List Int × List Int × Unit
abbrev EntryT := List Int × Int × List Int × BodyT × Unit
abbrev MsgT := Int × List Int × Int × List Int × Int × List Int × EntryT × Unit

instance instTagEq : DecidableEq (List Int × Unit) := instDecidableEqProd
instance instTagsEq : DecidableEq (List Int × List Int × Unit) := instDecidableEqProd
instance instMoveEq : DecidableEq MoveT := inferInstance
instance instBodyEq3 : DecidableEq (Int × List Int × List Int × Unit) := instDecidableEqProd
instance instBodyEq2 : DecidableEq (Bool × Int × List Int × List Int × Unit) := instDecidableEqProd
instance instBodyEq1 : DecidableEq (MoveT × Bool × Int × List Int × List Int × Unit) := instDecidableEqProd
instance instBodyEq : DecidableEq BodyT := instDecidableEqProd
instance instEntryEq3 : DecidableEq (BodyT × Unit) := instDecidableEqProd
instance instEntryEq2 : DecidableEq (List Int × BodyT × Unit) := instDecidableEqProd
instance instEntryEq1 : DecidableEq (Int × List Int × BodyT × Unit) := instDecidableEqProd
instance instEntryEq : DecidableEq EntryT := instDecidableEqProd
instance instMsgEq6 : DecidableEq (EntryT × Unit) := instDecidableEqProd
instance instMsgEq5 : DecidableEq (List Int × EntryT × Unit) := instDecidableEqProd
instance instMsgEq4 : DecidableEq (Int × List Int × EntryT × Unit) := instDecidableEqProd
instance instMsgEq3 : DecidableEq (List Int × Int × List Int × EntryT × Unit) := instDecidableEqProd
instance instMsgEq2 : DecidableEq (Int × List Int × Int × List Int × EntryT × Unit) := instDecidableEqProd
instance instMsgEq1 : DecidableEq (List Int × Int × List Int × Int × List Int × EntryT × Unit) := instDecidableEqProd
instance instMsgEq : DecidableEq MsgT := instDecidableEqProd

abbrev zero32 : List Int := List.replicate 32 0
abbrev move0 : MoveT := (0, 0, 0, ())
abbrev body0 : BodyT := (0, move0, false, 0, zero32, zero32, ())
abbrev entry0 : EntryT := (zero32, 0, zero32, body0, ())
abbrev msg0 : MsgT := (0, zero32, 0, zero32, 0, zero32, entry0, ())

/-- What the kit marks with. -/
def markTagD (k i : Int) : List Int := IntKind.u8.wrap (markI k i) :: IntKind.u8.wrap (Int.fdiv (markI k i) 256) :: IntKind.u8.wrap (Int.fdiv (markI k i) 65536) :: List.replicate 29 0
def markEntryD (k i : Int) : EntryT := (zero32, markI k i, zero32, body0, ())
def markMsgD (k i : Int) : MsgT := (0, zero32, markI k i, zero32, 0, zero32, entry0, ())
def markMoveD (k i : Int) : MoveT := (markI k i, 0, 0, ())

theorem isByte_wrap (n : Int) : isByte (IntKind.u8.wrap n) := by rw [wrapU8_mod]; unfold isByte; omega
theorem markI_wf (k i : Int) : IntKind.i64.min ≤ markI k i ∧ markI k i ≤ IntKind.i64.max := by
  show -9223372036854775808 ≤ markI k i ∧ markI k i ≤ 9223372036854775807
  unfold markI
  generalize (IntKind.i64.wrap (1000003 * (IntKind.i64.wrap (k + 7)))) + i = n
  simp only [IntKind.wrap, IntKind.bits, IntKind.signed]; simp; omega
theorem markTagD_len (k i : Int) : (markTagD k i).length = 32 := rfl
theorem markTagD_byte (k i : Int) : ∀ x ∈ markTagD k i, isByte x := by
  intro x hx
  unfold markTagD at hx
  rcases List.mem_cons.1 hx with rfl | hx
  · exact isByte_wrap _
  rcases List.mem_cons.1 hx with rfl | hx
  · exact isByte_wrap _
  rcases List.mem_cons.1 hx with rfl | hx
  · exact isByte_wrap _
  rw [(List.mem_replicate.1 hx).2]; unfold isByte; omega
theorem okTagB {t : List Int} (h : ShTag.ok t) : t.length = 32 ∧ ∀ x ∈ t, isByte x := ⟨h.1, fun x hx => h.2 x hx⟩
theorem ok0 : ShTag.ok zero32 := okTag (by simp) fun x hx => by rw [(List.mem_replicate.1 hx).2]; unfold isByte; omega
theorem okI {n : Int} (h : -9223372036854775808 ≤ n ∧ n ≤ 9223372036854775807) : (Sh.int .i64).ok n := h
theorem okI0 : (Sh.int .i64).ok (0 : Int) := okI (by decide)
theorem okMove0 : ShMove.ok move0 := ⟨okI0, okI0, okI0, trivial⟩
theorem okBody0 : ShBody.ok body0 := ⟨okI0, okMove0, trivial, okI0, ok0, ok0, trivial⟩
theorem okEntry0 : ShEntry.ok entry0 := ⟨ok0, okI0, ok0, okBody0, trivial⟩
theorem okMarkTag (k i : Int) : ShTag.ok (markTagD k i) := okTag (markTagD_len k i) (markTagD_byte k i)
theorem okMarkEntry (k i : Int) : ShEntry.ok (markEntryD k i) := ⟨ok0, markI_wf k i, ok0, okBody0, trivial⟩
theorem okMarkMsg (k i : Int) : ShMsg.ok (markMsgD k i) := ⟨okI0, ok0, markI_wf k i, ok0, okI0, ok0, okEntry0, trivial⟩
theorem okMarkMove (k i : Int) : ShMove.ok (markMoveD k i) := ⟨markI_wf k i, okI0, okI0, trivial⟩

end Go.Proofs.Ytgggpnjjkcfckaa
