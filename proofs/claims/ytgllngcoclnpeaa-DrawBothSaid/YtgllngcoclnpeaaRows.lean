/-
  No cell of these rows narrows 'for every input' (looked for: loops, veiled, ifaces, maps, wideKeys, modest, calm, conditions, laid).
  DERIVED. THE GIVEN ROWS OF THIS SEAT. 3 by the template 'for every input the law returns true; each argument reads behind the call as it read before'; 0 by the template 'total and deterministic' (their statements: YtgllngcoclnpeaaTotals.lean).
  GIVEN WITH THE SEED: the statements are not yours to turn. If you find one false, say at which input.
  Laid BY PROGRAM, IN A SANDBOX (cutbox-rows.mjs): the forced cells as the released guide's own fill.sh prints them over the translation 0b98b46c4a5ac170… (all of the seat's roots in one cut). By AI agents, Wed Nov 11 2026. No macro, syntax, notation, axiom, sorry.
-/
import Derived.Test.YtgllngcoclnpeaaChecked
import GoSem.Claim
import GoSem.ClaimJoined
import GoSem.ClaimMapViews
import Derived.JoinedTies
import Derived.KernelRfl
namespace Go.Proofs.Ytgllngcoclnpeaa
/- THE CELL 'sum', in the pinned program and in every row, IS THE sha256 OF THE DUMP (.gsa) THAT YtgllngcoclnpeaaProg.lean LOADS. Nothing in Lean hashes anything: it is a label: what it is worth is what the hold of that sum in a sandbox is worth. -/
noncomputable def Try.pinned : Pinned := { name := "ytgllngcoclnpeaa", sum := "0b98b46c4a5ac17007adab824e66799d6bbeed01f48a854938d676f8cd66ebda", checked := Try.checked }
namespace Rows
def none {H : Type} : Left H := { results := [], args := [] }

/-- 'zugzwanglaw23.DrawFair': WHATEVER THE INPUT: true; the input reads as it did. -/
def drawFairSpec : ChangeSpec := { name := "drawFair", fn := fun _ => fun
  | [d1, d2] => { results := [.lit (.bool true)], args := [d1, d2] }
  | _ => none }
def drawFairRow : OpenClaim := { program := "ytgllngcoclnpeaa", sum := "0b98b46c4a5ac17007adab824e66799d6bbeed01f48a854938d676f8cd66ebda", func := "zugzwang/zugzwanglaw23.DrawFair", spec := "drawFair", inPlace := ["maps.clone"], unfollowed := true, recurses := true, plainKeys := false, apart := false }
def DrawFairSaid : Prop := drawFairRow.holds Try.pinned (OpenSpec.ofChange drawFairSpec)

/-- ITS FALSE NEIGHBOUR: 'it returns false'. Refute it at one input. -/
def drawFairWrong : ChangeSpec := { name := "drawFair", fn := fun _ => fun
  | [d1, d2] => { results := [.lit (.bool false)], args := [d1, d2] }
  | _ => none }
def DrawFairWrongFalsely : Prop := drawFairRow.holds Try.pinned (OpenSpec.ofChange drawFairWrong)

/-- 'zugzwanglaw23.DrawBinds': WHATEVER THE INPUT: true; the input reads as it did. -/
def drawBindsSpec : ChangeSpec := { name := "drawBinds", fn := fun _ => fun
  | [d1, d2, d3, d4] => { results := [.lit (.bool true)], args := [d1, d2, d3, d4] }
  | _ => none }
def drawBindsRow : OpenClaim := { program := "ytgllngcoclnpeaa", sum := "0b98b46c4a5ac17007adab824e66799d6bbeed01f48a854938d676f8cd66ebda", func := "zugzwang/zugzwanglaw23.DrawBinds", spec := "drawBinds", inPlace := ["maps.clone"], unfollowed := true, recurses := true, plainKeys := false, apart := false }
def DrawBindsSaid : Prop := drawBindsRow.holds Try.pinned (OpenSpec.ofChange drawBindsSpec)

/-- ITS FALSE NEIGHBOUR: 'it returns false'. Refute it at one input. -/
def drawBindsWrong : ChangeSpec := { name := "drawBinds", fn := fun _ => fun
  | [d1, d2, d3, d4] => { results := [.lit (.bool false)], args := [d1, d2, d3, d4] }
  | _ => none }
def DrawBindsWrongFalsely : Prop := drawBindsRow.holds Try.pinned (OpenSpec.ofChange drawBindsWrong)

/-- 'zugzwanglaw23.DrawBoth': WHATEVER THE INPUT: true; the input reads as it did. -/
def drawBothSpec : ChangeSpec := { name := "drawBoth", fn := fun _ => fun
  | [d1, d2, d3] => { results := [.lit (.bool true)], args := [d1, d2, d3] }
  | _ => none }
def drawBothRow : OpenClaim := { program := "ytgllngcoclnpeaa", sum := "0b98b46c4a5ac17007adab824e66799d6bbeed01f48a854938d676f8cd66ebda", func := "zugzwang/zugzwanglaw23.DrawBoth", spec := "drawBoth", inPlace := ["maps.clone"], unfollowed := true, recurses := true, plainKeys := false, apart := false }
def DrawBothSaid : Prop := drawBothRow.holds Try.pinned (OpenSpec.ofChange drawBothSpec)

/-- ITS FALSE NEIGHBOUR: 'it returns false'. Refute it at one input. -/
def drawBothWrong : ChangeSpec := { name := "drawBoth", fn := fun _ => fun
  | [d1, d2, d3] => { results := [.lit (.bool false)], args := [d1, d2, d3] }
  | _ => none }
def DrawBothWrongFalsely : Prop := drawBothRow.holds Try.pinned (OpenSpec.ofChange drawBothWrong)

/- THE SECOND FORM. 'bulk': how many values and letters a reading holds, each counted each time it is reached (what is shared counts as often as it is met; a slice's spare places count too). A statement '..UptoSaid' is the law's where the arguments, and the package variables that the reading takes, are together of bulk at most 1048576: NARROWER than '..Said'. Prove '..Said' where nothing that the law and all that it calls make is longer than what came in: it says more and counts as full. Else prove '..UptoSaid'. A law counts once. -/
mutual
def uptoBulk {H : Type} : DataW H → Nat
  | .lit (.string bytes) => bytes.length + 1
  | .lit _ => 1
  | .nil => 1
  | .ptr d => uptoBulk d + 1
  | .slice elems spare => uptoBulkAll elems + uptoBulkAll spare + 1
  | .agg parts => uptoBulkAll parts + 1
  | .iface _ d => uptoBulk d + 1
  | .map entries => uptoBulkEntries entries + 1
  | .held _ => 1
def uptoBulkAll {H : Type} : List (DataW H) → Nat
  | [] => 0
  | d :: r => uptoBulk d + uptoBulkAll r
def uptoBulkEntries {H : Type} : List (Lit × DataW H) → Nat
  | [] => 0
  | x :: r => uptoBulkEntry x + uptoBulkEntries r
def uptoBulkEntry {H : Type} : Lit × DataW H → Nat
  | (.string bytes, d) => bytes.length + uptoBulk d + 1
  | (_, d) => uptoBulk d + 1
 end
def uptoSmall : (H : Type) → List (DataW H) → Bool := fun _ ds => decide (uptoBulkAll ds ≤ 1048576)
def OpenSpec.upto (s : _root_.Go.ChangeSpec) : _root_.Go.OpenSpec := { _root_.Go.OpenSpec.ofChange s with cond := some uptoSmall }

/-- 'zugzwanglaw23.DrawFair', WHERE WHAT IT READS IS OF BULK AT MOST 1048576: true; the input reads as it did. -/
def drawFairUptoRow : OpenClaim := { program := "ytgllngcoclnpeaa", sum := "0b98b46c4a5ac17007adab824e66799d6bbeed01f48a854938d676f8cd66ebda", func := "zugzwang/zugzwanglaw23.DrawFair", spec := "drawFair", inPlace := ["maps.clone"], unfollowed := true, recurses := true, plainKeys := false, apart := false, narrowed := true }
def DrawFairUptoSaid : Prop := drawFairUptoRow.holds Try.pinned (OpenSpec.upto drawFairSpec)

/-- 'zugzwanglaw23.DrawBinds', WHERE WHAT IT READS IS OF BULK AT MOST 1048576: true; the input reads as it did. -/
def drawBindsUptoRow : OpenClaim := { program := "ytgllngcoclnpeaa", sum := "0b98b46c4a5ac17007adab824e66799d6bbeed01f48a854938d676f8cd66ebda", func := "zugzwang/zugzwanglaw23.DrawBinds", spec := "drawBinds", inPlace := ["maps.clone"], unfollowed := true, recurses := true, plainKeys := false, apart := false, narrowed := true }
def DrawBindsUptoSaid : Prop := drawBindsUptoRow.holds Try.pinned (OpenSpec.upto drawBindsSpec)

/-- 'zugzwanglaw23.DrawBoth', WHERE WHAT IT READS IS OF BULK AT MOST 1048576: true; the input reads as it did. -/
def drawBothUptoRow : OpenClaim := { program := "ytgllngcoclnpeaa", sum := "0b98b46c4a5ac17007adab824e66799d6bbeed01f48a854938d676f8cd66ebda", func := "zugzwang/zugzwanglaw23.DrawBoth", spec := "drawBoth", inPlace := ["maps.clone"], unfollowed := true, recurses := true, plainKeys := false, apart := false, narrowed := true }
def DrawBothUptoSaid : Prop := drawBothUptoRow.holds Try.pinned (OpenSpec.upto drawBothSpec)

end Rows
end Go.Proofs.Ytgllngcoclnpeaa
