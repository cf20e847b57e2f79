/-
  No cell of these rows narrows 'for every input' (looked for: loops, veiled, ifaces, maps, wideKeys, modest, calm, conditions, laid).
  DERIVED. THE GIVEN ROWS OF THIS SEAT. 4 by the template 'for every input the law returns true; each argument reads behind the call as it read before'; 0 by the template 'total and deterministic' (their statements: YtgdkaljbjhbeiaaTotals.lean).
  GIVEN WITH THE SEED: the statements are not yours to turn. If you find one false, say at which input.
  Laid BY PROGRAM, IN A SANDBOX (cutbox-rows.mjs): the forced cells as the released guide's own fill.sh prints them over the translation 19b6c17e51969aa1… (all of the seat's roots in one cut). By AI agents, Wed Nov 11 2026. No macro, syntax, notation, axiom, sorry.
-/
import Derived.Test.YtgdkaljbjhbeiaaChecked
import GoSem.Claim
import GoSem.ClaimJoined
import GoSem.ClaimMapViews
import Derived.JoinedTies
import Derived.KernelRfl
namespace Go.Proofs.Ytgdkaljbjhbeiaa
/- THE CELL 'sum', in the pinned program and in every row, IS THE sha256 OF THE DUMP (.gsa) THAT YtgdkaljbjhbeiaaProg.lean LOADS. Nothing in Lean hashes anything: it is a label: what it is worth is what the hold of that sum in a sandbox is worth. -/
noncomputable def Try.pinned : Pinned := { name := "ytgdkaljbjhbeiaa", sum := "19b6c17e51969aa1d3ab14b2745c2a4bcb056dbbdb18a66567238fc0f9c3bd16", checked := Try.checked }
namespace Rows
def none {H : Type} : Left H := { results := [], args := [] }

/-- 'zugzwanglaw04.TagsReal': WHATEVER THE INPUT: true; the input reads as it did. -/
def tagsRealSpec : ChangeSpec := { name := "tagsReal", fn := fun _ => fun
  | [d1, d2, d3] => { results := [.lit (.bool true)], args := [d1, d2, d3] }
  | _ => none }
def tagsRealRow : OpenClaim := { program := "ytgdkaljbjhbeiaa", sum := "19b6c17e51969aa1d3ab14b2745c2a4bcb056dbbdb18a66567238fc0f9c3bd16", func := "zugzwang/zugzwanglaw04.TagsReal", spec := "tagsReal", inPlace := ["maps.clone"], plainKeys := false, apart := false }
def TagsRealSaid : Prop := tagsRealRow.holds Try.pinned (OpenSpec.ofChange tagsRealSpec)

/-- ITS FALSE NEIGHBOUR: 'it returns false'. Refute it at one input. -/
def tagsRealWrong : ChangeSpec := { name := "tagsReal", fn := fun _ => fun
  | [d1, d2, d3] => { results := [.lit (.bool false)], args := [d1, d2, d3] }
  | _ => none }
def TagsRealWrongFalsely : Prop := tagsRealRow.holds Try.pinned (OpenSpec.ofChange tagsRealWrong)

/-- 'zugzwanglaw04.TagsTell': WHATEVER THE INPUT: true; the input reads as it did. -/
def tagsTellSpec : ChangeSpec := { name := "tagsTell", fn := fun _ => fun
  | [d1, d2, d3, d4] => { results := [.lit (.bool true)], args := [d1, d2, d3, d4] }
  | _ => none }
def tagsTellRow : OpenClaim := { program := "ytgdkaljbjhbeiaa", sum := "19b6c17e51969aa1d3ab14b2745c2a4bcb056dbbdb18a66567238fc0f9c3bd16", func := "zugzwang/zugzwanglaw04.TagsTell", spec := "tagsTell", inPlace := ["internal/bytealg.IndexByte", "internal/bytealg.Index"], named := ["internal/bytealg.MaxLen"], plainKeys := false, apart := false }
def TagsTellSaid : Prop := tagsTellRow.holds Try.pinned (OpenSpec.ofChange tagsTellSpec)

/-- ITS FALSE NEIGHBOUR: 'it returns false'. Refute it at one input. -/
def tagsTellWrong : ChangeSpec := { name := "tagsTell", fn := fun _ => fun
  | [d1, d2, d3, d4] => { results := [.lit (.bool false)], args := [d1, d2, d3, d4] }
  | _ => none }
def TagsTellWrongFalsely : Prop := tagsTellRow.holds Try.pinned (OpenSpec.ofChange tagsTellWrong)

/-- 'zugzwanglaw04.TagsEnds': WHATEVER THE INPUT: true; the input reads as it did. -/
def tagsEndsSpec : ChangeSpec := { name := "tagsEnds", fn := fun _ => fun
  | [] => { results := [.lit (.bool true)], args := [] }
  | _ => none }
def tagsEndsRow : OpenClaim := { program := "ytgdkaljbjhbeiaa", sum := "19b6c17e51969aa1d3ab14b2745c2a4bcb056dbbdb18a66567238fc0f9c3bd16", func := "zugzwang/zugzwanglaw04.TagsEnds", spec := "tagsEnds", inPlace := ["internal/bytealg.IndexByte", "internal/bytealg.Index", "maps.clone"], named := ["internal/bytealg.MaxLen"], plainKeys := false, apart := false }
def TagsEndsSaid : Prop := tagsEndsRow.holds Try.pinned (OpenSpec.ofChange tagsEndsSpec)

/-- ITS FALSE NEIGHBOUR: 'it returns false'. Refute it at one input. -/
def tagsEndsWrong : ChangeSpec := { name := "tagsEnds", fn := fun _ => fun
  | [] => { results := [.lit (.bool false)], args := [] }
  | _ => none }
def TagsEndsWrongFalsely : Prop := tagsEndsRow.holds Try.pinned (OpenSpec.ofChange tagsEndsWrong)

/-- 'zugzwanglaw04.TagsFresh': WHATEVER THE INPUT: true; the input reads as it did. -/
def tagsFreshSpec : ChangeSpec := { name := "tagsFresh", fn := fun _ => fun
  | [d1, d2, d3] => { results := [.lit (.bool true)], args := [d1, d2, d3] }
  | _ => none }
def tagsFreshRow : OpenClaim := { program := "ytgdkaljbjhbeiaa", sum := "19b6c17e51969aa1d3ab14b2745c2a4bcb056dbbdb18a66567238fc0f9c3bd16", func := "zugzwang/zugzwanglaw04.TagsFresh", spec := "tagsFresh", inPlace := ["internal/bytealg.IndexByte", "internal/bytealg.Index", "maps.clone"], named := ["internal/bytealg.MaxLen"], plainKeys := false, apart := false }
def TagsFreshSaid : Prop := tagsFreshRow.holds Try.pinned (OpenSpec.ofChange tagsFreshSpec)

/-- ITS FALSE NEIGHBOUR: 'it returns false'. Refute it at one input. -/
def tagsFreshWrong : ChangeSpec := { name := "tagsFresh", fn := fun _ => fun
  | [d1, d2, d3] => { results := [.lit (.bool false)], args := [d1, d2, d3] }
  | _ => none }
def TagsFreshWrongFalsely : Prop := tagsFreshRow.holds Try.pinned (OpenSpec.ofChange tagsFreshWrong)

/- THE SECOND FORM. 'bulk': how many values and letters a reading holds, each counted each time it is reached (what is shared counts as often as it is met; a slice's spare places count too). A statement '..UptoSaid' is the law's where the arguments, and the package variables that the reading takes, are together of bulk at most 1048576: NARROWER than '..Said'. Prove '..Said' where nothing that the law and all that it calls make is longer than what came in: it says more and counts as full. Else prove '..UptoSaid'. A law counts once. -/
mutual
def uptoBulk {H : Type} : DataW H → Nat
  | .lit (.string bytes) => bytes.length + 1
  | .lit _ => 1
  | .nil => 1
  | .ptr d => uptoBulk d + 1
  | .slice elems spare => uptoBulkAll elems + uptoBulkAll spare + 1
  | .agg parts => uptoBulkAll parts + 1
  | .iface _ d => uptoBulk d + 1
  | .map entries => uptoBulkEntries entries + 1
  | .held _ => 1
def uptoBulkAll {H : Type} : List (DataW H) → Nat
  | [] => 0
  | d :: r => uptoBulk d + uptoBulkAll r
def uptoBulkEntries {H : Type} : List (Lit × DataW H) → Nat
  | [] => 0
  | x :: r => uptoBulkEntry x + uptoBulkEntries r
def uptoBulkEntry {H : Type} : Lit × DataW H → Nat
  | (.string bytes, d) => bytes.length + uptoBulk d + 1
  | (_, d) => uptoBulk d + 1
 end
def uptoSmall : (H : Type) → List (DataW H) → Bool := fun _ ds => decide (uptoBulkAll ds ≤ 1048576)
def OpenSpec.upto (s : _root_.Go.ChangeSpec) : _root_.Go.OpenSpec := { _root_.Go.OpenSpec.ofChange s with cond := some uptoSmall }

/-- 'zugzwanglaw04.TagsReal', WHERE WHAT IT READS IS OF BULK AT MOST 1048576: true; the input reads as it did. -/
def tagsRealUptoRow : OpenClaim := { program := "ytgdkaljbjhbeiaa", sum := "19b6c17e51969aa1d3ab14b2745c2a4bcb056dbbdb18a66567238fc0f9c3bd16", func := "zugzwang/zugzwanglaw04.TagsReal", spec := "tagsReal", inPlace := ["maps.clone"], plainKeys := false, apart := false, narrowed := true }
def TagsRealUptoSaid : Prop := tagsRealUptoRow.holds Try.pinned (OpenSpec.upto tagsRealSpec)

/-- 'zugzwanglaw04.TagsTell', WHERE WHAT IT READS IS OF BULK AT MOST 1048576: true; the input reads as it did. -/
def tagsTellUptoRow : OpenClaim := { program := "ytgdkaljbjhbeiaa", sum := "19b6c17e51969aa1d3ab14b2745c2a4bcb056dbbdb18a66567238fc0f9c3bd16", func := "zugzwang/zugzwanglaw04.TagsTell", spec := "tagsTell", inPlace := ["internal/bytealg.IndexByte", "internal/bytealg.Index"], named := ["internal/bytealg.MaxLen"], plainKeys := false, apart := false, narrowed := true }
def TagsTellUptoSaid : Prop := tagsTellUptoRow.holds Try.pinned (OpenSpec.upto tagsTellSpec)

/-- 'zugzwanglaw04.TagsEnds', WHERE WHAT IT READS IS OF BULK AT MOST 1048576: true; the input reads as it did. -/
def tagsEndsUptoRow : OpenClaim := { program := "ytgdkaljbjhbeiaa", sum := "19b6c17e51969aa1d3ab14b2745c2a4bcb056dbbdb18a66567238fc0f9c3bd16", func := "zugzwang/zugzwanglaw04.TagsEnds", spec := "tagsEnds", inPlace := ["internal/bytealg.IndexByte", "internal/bytealg.Index", "maps.clone"], named := ["internal/bytealg.MaxLen"], plainKeys := false, apart := false, narrowed := true }
def TagsEndsUptoSaid : Prop := tagsEndsUptoRow.holds Try.pinned (OpenSpec.upto tagsEndsSpec)

/-- 'zugzwanglaw04.TagsFresh', WHERE WHAT IT READS IS OF BULK AT MOST 1048576: true; the input reads as it did. -/
def tagsFreshUptoRow : OpenClaim := { program := "ytgdkaljbjhbeiaa", sum := "19b6c17e51969aa1d3ab14b2745c2a4bcb056dbbdb18a66567238fc0f9c3bd16", func := "zugzwang/zugzwanglaw04.TagsFresh", spec := "tagsFresh", inPlace := ["internal/bytealg.IndexByte", "internal/bytealg.Index", "maps.clone"], named := ["internal/bytealg.MaxLen"], plainKeys := false, apart := false, narrowed := true }
def TagsFreshUptoSaid : Prop := tagsFreshUptoRow.holds Try.pinned (OpenSpec.upto tagsFreshSpec)

end Rows
end Go.Proofs.Ytgdkaljbjhbeiaa
