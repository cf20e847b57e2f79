/-
  The statements of layer 25, their parts: the example, sizes, deeds.
-/
import Derived.Test.YtgongoaiflphaaaGreatKDisk
set_option linter.unusedSimpArgs false
set_option linter.unusedVariables false
namespace Go.Proofs.YtgongoaiflphaaaGreat
open Go Go.Ev

/-- A deed of the statement. -/
abbrev ShDeed : Sh := .pair (.int .i64) (.pair (.int .i64) (.pair (.sl (.sl (.int .u8))) .unit))
abbrev Deed := Int × Int × List (List Int) × Unit
def deedSize (d : Deed) : Nat := d.2.2.1.length + total d.2.2.1
def deedsSize (l : List Deed) : Nat := l.length + (l.map deedSize).sum

theorem LayC.deed {g : GH} {c : Nat} {d : Deed} {cs : List Value} (l : LayC g c ShDeed d cs) : ∃ v : Sl, cs = [.int .i64 d.1, .int .i64 d.2.1, slV v] ∧ SlC g c (.sl (.int .u8)) v d.2.2.1 ∧
    (-9223372036854775808 ≤ d.1 ∧ d.1 ≤ 9223372036854775807) ∧ (-9223372036854775808 ≤ d.2.1 ∧ d.2.1 ≤ 9223372036854775807) := by
  obtain ⟨c1, c2, rfl, ⟨rfl, h1⟩, c3, c4, rfl, ⟨rfl, h2⟩, c5, c6, rfl, l3, rfl⟩ := l
  obtain ⟨v, rfl, h3⟩ := l3.sl
  exact ⟨v, rfl, h3, h1, h2⟩

theorem LayC.mkDeed {g : GH} {c : Nat} {v : Sl} {xss : List (List Int)} (h : SlC g c (.sl (.int .u8)) v xss) (a b : Int) (ha : -9223372036854775808 ≤ a ∧ a ≤ 9223372036854775807) (hb : -9223372036854775808 ≤ b ∧ b ≤ 9223372036854775807) :
    LayC g c ShDeed (a, b, xss, ()) [.int .i64 a, .int .i64 b, slV v] :=
  ⟨[.int .i64 a], [.int .i64 b, slV v], rfl, ⟨rfl, ha⟩, [.int .i64 b], [slV v], rfl, ⟨rfl, hb⟩, [slV v], [], rfl, h, rfl⟩
theorem sum_take {l : List Nat} {i : Nat} (h : i < l.length) : (l.take (i + 1)).sum = (l.take i).sum + l[i] := by
  rw [List.take_succ_eq_append_getElem h, List.sum_append]; simp

end Go.Proofs.YtgongoaiflphaaaGreat
