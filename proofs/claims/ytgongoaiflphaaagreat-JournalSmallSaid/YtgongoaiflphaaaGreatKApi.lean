/-
  The api's data: moves, bodies, entries, messages, as shapes.
-/
import Derived.Test.YtgongoaiflphaaaGreatKTag
import Derived.Test.YtgongoaiflphaaaGreatFlat
set_option linter.unusedSimpArgs false
set_option linter.unusedVariables false
namespace Go.Proofs.YtgongoaiflphaaaGreat
open Go Go.Ev

abbrev MoveT := Int × Int × Int × Unit
abbrev BodyT := Int × MoveT × Bool × Int × List Int × List Int × Unit
abbrev EntryT := List Int × Int × List Int × BodyT × Unit
abbrev MsgT := Int × List Int × Int × List Int × Int × List Int × EntryT × Unit

instance instTagEq : DecidableEq (List Int × Unit) := instDecidableEqProd
instance instTagsEq : DecidableEq (List Int × List Int × Unit) := instDecidableEqProd
instance instMoveEq : DecidableEq MoveT := inferInstance
instance instBodyEq3 : DecidableEq (Int × List Int × List Int × Unit) := instDecidableEqProd
instance instBodyEq2 : DecidableEq (Bool × Int × List Int × List Int × Unit) := instDecidableEqProd
instance instBodyEq1 : DecidableEq (MoveT × Bool × Int × List Int × List Int × Unit) := instDecidableEqProd
instance instBodyEq : DecidableEq BodyT := instDecidableEqProd
instance instEntryEq3 : DecidableEq (BodyT × Unit) := instDecidableEqProd
instance instEntryEq2 : DecidableEq (List Int × BodyT × Unit) := instDecidableEqProd
instance instEntryEq1 : DecidableEq (Int × List Int × BodyT × Unit) := instDecidableEqProd
instance instEntryEq : DecidableEq EntryT := instDecidableEqProd
instance instMsgEq6 : DecidableEq (EntryT × Unit) := instDecidableEqProd
instance instMsgEq5 : DecidableEq (List Int × EntryT × Unit) := instDecidableEqProd
instance instMsgEq4 : DecidableEq (Int × List Int × EntryT × Unit) := instDecidableEqProd
instance instMsgEq3 : DecidableEq (List Int × Int × List Int × EntryT × Unit) := instDecidableEqProd
instance instMsgEq2 : DecidableEq (Int × List Int × Int × List Int × EntryT × Unit) := instDecidableEqProd
instance instMsgEq1 : DecidableEq (List Int × Int × List Int × Int × List Int × EntryT × Unit) := instDecidableEqProd
instance instMsgEq : DecidableEq MsgT := instDecidableEqProd

end Go.Proofs.YtgongoaiflphaaaGreat

/-!
  The api's data in blocks: their parts, read and written.
-/
namespace Go.Proofs.YtgongoaiflphaaaGreat
open Go Go.Ev

abbrev BodyT.move (b : BodyT) : MoveT := b.2.1
abbrev EntryT.number (e : EntryT) : Int := e.2.1
abbrev EntryT.what (e : EntryT) : BodyT := e.2.2.2.1
abbrev MsgT.entry (m : MsgT) : EntryT := m.2.2.2.2.2.2.1

/-! ### Parts written -/

/-! ### What the program says of them -/

end Go.Proofs.YtgongoaiflphaaaGreat
