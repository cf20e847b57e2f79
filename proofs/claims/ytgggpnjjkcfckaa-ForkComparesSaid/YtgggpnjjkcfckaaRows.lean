/-
  No cell of these rows narrows 'for every input' (looked for: loops, veiled, ifaces, maps, wideKeys, modest, calm, conditions, laid).
  DERIVED. THE GIVEN ROWS OF THIS SEAT. 3 by the template 'for every input the law returns true; each argument reads behind the call as it read before'; 0 by the template 'total and deterministic' (their statements: YtgggpnjjkcfckaaTotals.lean).
  GIVEN WITH THE SEED: the statements are not yours to turn. If you find one false, say at which input.
  Laid BY PROGRAM, IN A SANDBOX (cutbox-rows.mjs): the forced cells as the released guide's own fill.sh prints them over the translation f54754bb3fc68728… (all of the seat's roots in one cut). By AI agents, Wed Nov 11 2026. No macro, syntax, notation, axiom, sorry.
-/
import Derived.Test.YtgggpnjjkcfckaaChecked
import GoSem.Claim
import GoSem.ClaimJoined
import GoSem.ClaimMapViews
import Derived.JoinedTies
import Derived.KernelRfl
namespace Go.Proofs.Ytgggpnjjkcfckaa
/- THE CELL 'sum', in the pinned program and in every row, IS THE sha256 OF THE DUMP (.gsa) THAT YtgggpnjjkcfckaaProg.lean LOADS. Nothing in Lean hashes anything: it is a label: what it is worth is what the hold of that sum in a sandbox is worth. -/
noncomputable def Try.pinned : Pinned := { name := "ytgggpnjjkcfckaa", sum := "f54754bb3fc68728ae553460e7f229c26bf79ddbe3f6cec32c248497a7f695d6", checked := Try.checked }
namespace Rows
def none {H : Type} : Left H := { results := [], args := [] }

/-- 'zugzwanglaw21.ForkCompares': WHATEVER THE INPUT: true; the input reads as it did. -/
def forkComparesSpec : ChangeSpec := { name := "forkCompares", fn := fun _ => fun
  | [d1, d2, d3] => { results := [.lit (.bool true)], args := [d1, d2, d3] }
  | _ => none }
def forkComparesRow : OpenClaim := { program := "ytgggpnjjkcfckaa", sum := "f54754bb3fc68728ae553460e7f229c26bf79ddbe3f6cec32c248497a7f695d6", func := "zugzwang/zugzwanglaw21.ForkCompares", spec := "forkCompares", unfollowed := true, recurses := true, apart := false }
def ForkComparesSaid : Prop := forkComparesRow.holds Try.pinned (OpenSpec.ofChange forkComparesSpec)

/-- ITS FALSE NEIGHBOUR: 'it returns false'. Refute it at one input. -/
def forkComparesWrong : ChangeSpec := { name := "forkCompares", fn := fun _ => fun
  | [d1, d2, d3] => { results := [.lit (.bool false)], args := [d1, d2, d3] }
  | _ => none }
def ForkComparesWrongFalsely : Prop := forkComparesRow.holds Try.pinned (OpenSpec.ofChange forkComparesWrong)

/-- 'zugzwanglaw21.ForkSees': WHATEVER THE INPUT: true; the input reads as it did. -/
def forkSeesSpec : ChangeSpec := { name := "forkSees", fn := fun _ => fun
  | [d1, d2] => { results := [.lit (.bool true)], args := [d1, d2] }
  | _ => none }
def forkSeesRow : OpenClaim := { program := "ytgggpnjjkcfckaa", sum := "f54754bb3fc68728ae553460e7f229c26bf79ddbe3f6cec32c248497a7f695d6", func := "zugzwang/zugzwanglaw21.ForkSees", spec := "forkSees", unfollowed := true, recurses := true, apart := false }
def ForkSeesSaid : Prop := forkSeesRow.holds Try.pinned (OpenSpec.ofChange forkSeesSpec)

/-- ITS FALSE NEIGHBOUR: 'it returns false'. Refute it at one input. -/
def forkSeesWrong : ChangeSpec := { name := "forkSees", fn := fun _ => fun
  | [d1, d2] => { results := [.lit (.bool false)], args := [d1, d2] }
  | _ => none }
def ForkSeesWrongFalsely : Prop := forkSeesRow.holds Try.pinned (OpenSpec.ofChange forkSeesWrong)

/-- 'zugzwanglaw21.ForkBook': WHATEVER THE INPUT: true; the input reads as it did. -/
def forkBookSpec : ChangeSpec := { name := "forkBook", fn := fun _ => fun
  | [d1, d2] => { results := [.lit (.bool true)], args := [d1, d2] }
  | _ => none }
def forkBookRow : OpenClaim := { program := "ytgggpnjjkcfckaa", sum := "f54754bb3fc68728ae553460e7f229c26bf79ddbe3f6cec32c248497a7f695d6", func := "zugzwang/zugzwanglaw21.ForkBook", spec := "forkBook", unfollowed := true, recurses := true, apart := false }
def ForkBookSaid : Prop := forkBookRow.holds Try.pinned (OpenSpec.ofChange forkBookSpec)

/-- ITS FALSE NEIGHBOUR: 'it returns false'. Refute it at one input. -/
def forkBookWrong : ChangeSpec := { name := "forkBook", fn := fun _ => fun
  | [d1, d2] => { results := [.lit (.bool false)], args := [d1, d2] }
  | _ => none }
def ForkBookWrongFalsely : Prop := forkBookRow.holds Try.pinned (OpenSpec.ofChange forkBookWrong)

/- THE SECOND FORM. 'bulk': how many values and letters a reading holds, each counted each time it is reached (what is shared counts as often as it is met; a slice's spare places count too). A statement '..UptoSaid' is the law's where the arguments, and the package variables that the reading takes, are together of bulk at most 1048576: NARROWER than '..Said'. Prove '..Said' where nothing that the law and all that it calls make is longer than what came in: it says more and counts as full. Else prove '..UptoSaid'. A law counts once. -/
mutual
def uptoBulk {H : Type} : DataW H → Nat
  | .lit (.string bytes) => bytes.length + 1
  | .lit _ => 1
  | .nil => 1
  | .ptr d => uptoBulk d + 1
  | .slice elems spare => uptoBulkAll elems + uptoBulkAll spare + 1
  | .agg parts => uptoBulkAll parts + 1
  | .iface _ d => uptoBulk d + 1
  | .map entries => uptoBulkEntries entries + 1
  | .held _ => 1
def uptoBulkAll {H : Type} : List (DataW H) → Nat
  | [] => 0
  | d :: r => uptoBulk d + uptoBulkAll r
def uptoBulkEntries {H : Type} : List (Lit × DataW H) → Nat
  | [] => 0
  | x :: r => uptoBulkEntry x + uptoBulkEntries r
def uptoBulkEntry {H : Type} : Lit × DataW H → Nat
  | (.string bytes, d) => bytes.length + uptoBulk d + 1
  | (_, d) => uptoBulk d + 1
 end
def uptoSmall : (H : Type) → List (DataW H) → Bool := fun _ ds => decide (uptoBulkAll ds ≤ 1048576)
def OpenSpec.upto (s : _root_.Go.ChangeSpec) : _root_.Go.OpenSpec := { _root_.Go.OpenSpec.ofChange s with cond := some uptoSmall }

/-- 'zugzwanglaw21.ForkCompares', WHERE WHAT IT READS IS OF BULK AT MOST 1048576: true; the input reads as it did. -/
def forkComparesUptoRow : OpenClaim := { program := "ytgggpnjjkcfckaa", sum := "f54754bb3fc68728ae553460e7f229c26bf79ddbe3f6cec32c248497a7f695d6", func := "zugzwang/zugzwanglaw21.ForkCompares", spec := "forkCompares", unfollowed := true, recurses := true, apart := false, narrowed := true }
def ForkComparesUptoSaid : Prop := forkComparesUptoRow.holds Try.pinned (OpenSpec.upto forkComparesSpec)

/-- 'zugzwanglaw21.ForkSees', WHERE WHAT IT READS IS OF BULK AT MOST 1048576: true; the input reads as it did. -/
def forkSeesUptoRow : OpenClaim := { program := "ytgggpnjjkcfckaa", sum := "f54754bb3fc68728ae553460e7f229c26bf79ddbe3f6cec32c248497a7f695d6", func := "zugzwang/zugzwanglaw21.ForkSees", spec := "forkSees", unfollowed := true, recurses := true, apart := false, narrowed := true }
def ForkSeesUptoSaid : Prop := forkSeesUptoRow.holds Try.pinned (OpenSpec.upto forkSeesSpec)

/-- 'zugzwanglaw21.ForkBook', WHERE WHAT IT READS IS OF BULK AT MOST 1048576: true; the input reads as it did. -/
def forkBookUptoRow : OpenClaim := { program := "ytgggpnjjkcfckaa", sum := "f54754bb3fc68728ae553460e7f229c26bf79ddbe3f6cec32c248497a7f695d6", func := "zugzwang/zugzwanglaw21.ForkBook", spec := "forkBook", unfollowed := true, recurses := true, apart := false, narrowed := true }
def ForkBookUptoSaid : Prop := forkBookUptoRow.holds Try.pinned (OpenSpec.upto forkBookSpec)

end Rows
end Go.Proofs.Ytgggpnjjkcfckaa
