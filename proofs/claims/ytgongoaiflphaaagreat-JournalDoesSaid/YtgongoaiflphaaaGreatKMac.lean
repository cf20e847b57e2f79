/-
  The package of keyed digests, and the document's own: contracts of its functions.
-/
import Derived.Test.YtgongoaiflphaaaGreatKRef02
import Derived.Test.YtgongoaiflphaaaGreatFlat
import Derived.Test.YtgongoaiflphaaaGreatBuild
set_option linter.unusedSimpArgs false
set_option linter.unusedVariables false
namespace Go.Proofs.YtgongoaiflphaaaGreat
open Go Go.Ev

/-! ### In plain Lean -/

def turnB (m b : Int) : Int := IntKind.u8.wrap ((BitVec.ofInt (IntKind.bits .u8) b ^^^ BitVec.ofInt (IntKind.bits .u8) m).toNat : Int)
def shortB (ks : List Int) : List Int := if 64 < ks.length then shaB ks else ks
def keyB (ks : List Int) : List Int := shortB ks ++ List.replicate (64 - (shortB ks).length) 0
def macB (ks bs : List Int) : List Int := shaB ((keyB ks).map (turnB 92) ++ shaB ((keyB ks).map (turnB 54) ++ bs))

theorem wrapIsByte (n : Int) : isByte (IntKind.u8.wrap n) := by
  simp only [IntKind.wrap, IntKind.bits, IntKind.signed]; unfold isByte; simp; omega
theorem turnB_byte (m b : Int) : isByte (turnB m b) := wrapIsByte _
theorem turnsB_byte (m : Int) (ks : List Int) : ∀ x ∈ ks.map (turnB m), isByte x := by
  intro x hx
  obtain ⟨b, _, rfl⟩ := List.mem_map.1 hx
  exact turnB_byte _ _
theorem shortB_le (ks : List Int) : (shortB ks).length ≤ 64 := by
  unfold shortB
  split
  · rw [shaB_length]; omega
  · omega
theorem keyB_length (ks : List Int) : (keyB ks).length = 64 := by
  have := shortB_le ks
  simp [keyB]; omega
theorem keyB_byte {ks : List Int} (h : ∀ x ∈ ks, isByte x) : ∀ x ∈ keyB ks, isByte x := by
  intro x hx
  unfold keyB shortB at hx
  rcases List.mem_append.1 hx with hx | hx
  · split at hx
    · exact shaB_byte _ x hx
    · exact h x hx
  · rw [(List.mem_replicate.1 hx).2]; unfold isByte; omega
theorem macB_length (ks bs : List Int) : (macB ks bs).length = 32 := shaB_length _
theorem macB_byte (ks bs : List Int) : ∀ x ∈ macB ks bs, isByte x := shaB_byte _

/-- What the walk has turned so far. -/
def turnTo (m : Int) (ks : List Int) (i : Nat) : List Int := (ks.take i).map (turnB m) ++ ks.drop i
theorem turnTo_length (m : Int) (ks : List Int) (i : Nat) (h : i ≤ ks.length) : (turnTo m ks i).length = ks.length := by simp [turnTo]; omega
theorem turnTo_get (m : Int) (ks : List Int) (i : Nat) (h : i < ks.length) : (turnTo m ks i)[i]? = some ks[i] := by
  unfold turnTo
  have hl : ((ks.take i).map (turnB m)).length = i := by simp; omega
  rw [List.getElem?_append_right (by omega), hl, List.getElem?_drop, Nat.sub_self, Nat.add_zero, List.getElem?_eq_getElem h]
theorem turnTo_set (m : Int) (ks : List Int) (i : Nat) (h : i < ks.length) : (turnTo m ks i).set i (turnB m ks[i]) = turnTo m ks (i + 1) := by
  unfold turnTo
  have hl : ((ks.take i).map (turnB m)).length = i := by simp; omega
  rw [List.set_append_right _ _ (by omega), hl, Nat.sub_self, List.drop_eq_getElem_cons h, List.set_cons_zero, List.take_succ_eq_append_getElem h, List.map_append]
  simp

/-! ### The package -/

end Go.Proofs.YtgongoaiflphaaaGreat
