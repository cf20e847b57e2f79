/-
  No cell of these rows narrows 'for every input' (looked for: loops, veiled, ifaces, maps, wideKeys, modest, calm, conditions, laid).
  DERIVED. THE GIVEN ROWS OF THIS SEAT. 3 by the template 'for every input the law returns true; each argument reads behind the call as it read before'; 0 by the template 'total and deterministic' (their statements: YtejjeggaofpbiaaTotals.lean).
  GIVEN WITH THE SEED: the statements are not yours to turn. If you find one false, say at which input.
  Laid BY PROGRAM, IN A SANDBOX (cutbox-rows.mjs): the forced cells as the released guide's own fill.sh prints them over the translation de1b06412ebe2bc6… (all of the seat's roots in one cut). By AI agents, Wed Nov 11 2026. No macro, syntax, notation, axiom, sorry.
-/
import Derived.Test.YtejjeggaofpbiaaChecked
import GoSem.Claim
import GoSem.ClaimJoined
import GoSem.ClaimMapViews
import Derived.JoinedTies
import Derived.KernelRfl
namespace Go.Proofs.Ytejjeggaofpbiaa
/- THE CELL 'sum', in the pinned program and in every row, IS THE sha256 OF THE DUMP (.gsa) THAT YtejjeggaofpbiaaProg.lean LOADS. Nothing in Lean hashes anything: it is a label: what it is worth is what the hold of that sum in a sandbox is worth. -/
noncomputable def Try.pinned : Pinned := { name := "ytejjeggaofpbiaa", sum := "de1b06412ebe2bc633f638e53f70b565817420bd97c8b75ef68b7e23d9c9436a", checked := Try.checked }
namespace Rows
def none {H : Type} : Left H := { results := [], args := [] }

/-- 'zugzwanglaw24.SealRests': WHATEVER THE INPUT: true; the input reads as it did. -/
def sealRestsSpec : ChangeSpec := { name := "sealRests", fn := fun _ => fun
  | [d1, d2] => { results := [.lit (.bool true)], args := [d1, d2] }
  | _ => none }
def sealRestsRow : OpenClaim := { program := "ytejjeggaofpbiaa", sum := "de1b06412ebe2bc633f638e53f70b565817420bd97c8b75ef68b7e23d9c9436a", func := "zugzwang/zugzwanglaw24.SealRests", spec := "sealRests", inPlace := ["maps.clone"], unfollowed := true, recurses := true, plainKeys := false, apart := false }
def SealRestsSaid : Prop := sealRestsRow.holds Try.pinned (OpenSpec.ofChange sealRestsSpec)

/-- ITS FALSE NEIGHBOUR: 'it returns false'. Refute it at one input. -/
def sealRestsWrong : ChangeSpec := { name := "sealRests", fn := fun _ => fun
  | [d1, d2] => { results := [.lit (.bool false)], args := [d1, d2] }
  | _ => none }
def SealRestsWrongFalsely : Prop := sealRestsRow.holds Try.pinned (OpenSpec.ofChange sealRestsWrong)

/-- 'zugzwanglaw24.SealBinds': WHATEVER THE INPUT: true; the input reads as it did. -/
def sealBindsSpec : ChangeSpec := { name := "sealBinds", fn := fun _ => fun
  | [d1, d2, d3, d4, d5, d6, d7] => { results := [.lit (.bool true)], args := [d1, d2, d3, d4, d5, d6, d7] }
  | _ => none }
def sealBindsRow : OpenClaim := { program := "ytejjeggaofpbiaa", sum := "de1b06412ebe2bc633f638e53f70b565817420bd97c8b75ef68b7e23d9c9436a", func := "zugzwang/zugzwanglaw24.SealBinds", spec := "sealBinds", inPlace := ["maps.clone"], unfollowed := true, recurses := true, plainKeys := false, apart := false }
def SealBindsSaid : Prop := sealBindsRow.holds Try.pinned (OpenSpec.ofChange sealBindsSpec)

/-- ITS FALSE NEIGHBOUR: 'it returns false'. Refute it at one input. -/
def sealBindsWrong : ChangeSpec := { name := "sealBinds", fn := fun _ => fun
  | [d1, d2, d3, d4, d5, d6, d7] => { results := [.lit (.bool false)], args := [d1, d2, d3, d4, d5, d6, d7] }
  | _ => none }
def SealBindsWrongFalsely : Prop := sealBindsRow.holds Try.pinned (OpenSpec.ofChange sealBindsWrong)

/-- 'zugzwanglaw24.SealHides': WHATEVER THE INPUT: true; the input reads as it did. -/
def sealHidesSpec : ChangeSpec := { name := "sealHides", fn := fun _ => fun
  | [d1, d2, d3, d4, d5, d6] => { results := [.lit (.bool true)], args := [d1, d2, d3, d4, d5, d6] }
  | _ => none }
def sealHidesRow : OpenClaim := { program := "ytejjeggaofpbiaa", sum := "de1b06412ebe2bc633f638e53f70b565817420bd97c8b75ef68b7e23d9c9436a", func := "zugzwang/zugzwanglaw24.SealHides", spec := "sealHides", inPlace := ["maps.clone", "internal/bytealg.IndexByte", "internal/bytealg.Index"], unfollowed := true, recurses := true, named := ["internal/bytealg.MaxLen"], plainKeys := false, apart := false }
def SealHidesSaid : Prop := sealHidesRow.holds Try.pinned (OpenSpec.ofChange sealHidesSpec)

/-- ITS FALSE NEIGHBOUR: 'it returns false'. Refute it at one input. -/
def sealHidesWrong : ChangeSpec := { name := "sealHides", fn := fun _ => fun
  | [d1, d2, d3, d4, d5, d6] => { results := [.lit (.bool false)], args := [d1, d2, d3, d4, d5, d6] }
  | _ => none }
def SealHidesWrongFalsely : Prop := sealHidesRow.holds Try.pinned (OpenSpec.ofChange sealHidesWrong)

/- THE SECOND FORM. 'bulk': how many values and letters a reading holds, each counted each time it is reached (what is shared counts as often as it is met; a slice's spare places count too). A statement '..UptoSaid' is the law's where the arguments, and the package variables that the reading takes, are together of bulk at most 1048576: NARROWER than '..Said'. Prove '..Said' where nothing that the law and all that it calls make is longer than what came in: it says more and counts as full. Else prove '..UptoSaid'. A law counts once. -/
mutual
def uptoBulk {H : Type} : DataW H → Nat
  | .lit (.string bytes) => bytes.length + 1
  | .lit _ => 1
  | .nil => 1
  | .ptr d => uptoBulk d + 1
  | .slice elems spare => uptoBulkAll elems + uptoBulkAll spare + 1
  | .agg parts => uptoBulkAll parts + 1
  | .iface _ d => uptoBulk d + 1
  | .map entries => uptoBulkEntries entries + 1
  | .held _ => 1
def uptoBulkAll {H : Type} : List (DataW H) → Nat
  | [] => 0
  | d :: r => uptoBulk d + uptoBulkAll r
def uptoBulkEntries {H : Type} : List (Lit × DataW H) → Nat
  | [] => 0
  | x :: r => uptoBulkEntry x + uptoBulkEntries r
def uptoBulkEntry {H : Type} : Lit × DataW H → Nat
  | (.string bytes, d) => bytes.length + uptoBulk d + 1
  | (_, d) => uptoBulk d + 1
 end
def uptoSmall : (H : Type) → List (DataW H) → Bool := fun _ ds => decide (uptoBulkAll ds ≤ 1048576)
def OpenSpec.upto (s : _root_.Go.ChangeSpec) : _root_.Go.OpenSpec := { _root_.Go.OpenSpec.ofChange s with cond := some uptoSmall }

/-- 'zugzwanglaw24.SealRests', WHERE WHAT IT READS IS OF BULK AT MOST 1048576: true; the input reads as it did. -/
def sealRestsUptoRow : OpenClaim := { program := "ytejjeggaofpbiaa", sum := "de1b06412ebe2bc633f638e53f70b565817420bd97c8b75ef68b7e23d9c9436a", func := "zugzwang/zugzwanglaw24.SealRests", spec := "sealRests", inPlace := ["maps.clone"], unfollowed := true, recurses := true, plainKeys := false, apart := false, narrowed := true }
def SealRestsUptoSaid : Prop := sealRestsUptoRow.holds Try.pinned (OpenSpec.upto sealRestsSpec)

/-- 'zugzwanglaw24.SealBinds', WHERE WHAT IT READS IS OF BULK AT MOST 1048576: true; the input reads as it did. -/
def sealBindsUptoRow : OpenClaim := { program := "ytejjeggaofpbiaa", sum := "de1b06412ebe2bc633f638e53f70b565817420bd97c8b75ef68b7e23d9c9436a", func := "zugzwang/zugzwanglaw24.SealBinds", spec := "sealBinds", inPlace := ["maps.clone"], unfollowed := true, recurses := true, plainKeys := false, apart := false, narrowed := true }
def SealBindsUptoSaid : Prop := sealBindsUptoRow.holds Try.pinned (OpenSpec.upto sealBindsSpec)

/-- 'zugzwanglaw24.SealHides', WHERE WHAT IT READS IS OF BULK AT MOST 1048576: true; the input reads as it did. -/
def sealHidesUptoRow : OpenClaim := { program := "ytejjeggaofpbiaa", sum := "de1b06412ebe2bc633f638e53f70b565817420bd97c8b75ef68b7e23d9c9436a", func := "zugzwang/zugzwanglaw24.SealHides", spec := "sealHides", inPlace := ["maps.clone", "internal/bytealg.IndexByte", "internal/bytealg.Index"], unfollowed := true, recurses := true, named := ["internal/bytealg.MaxLen"], plainKeys := false, apart := false, narrowed := true }
def SealHidesUptoSaid : Prop := sealHidesUptoRow.holds Try.pinned (OpenSpec.upto sealHidesSpec)

end Rows
end Go.Proofs.Ytejjeggaofpbiaa
