/-
  Two tags held against each other, byte by byte; a tag checked.
-/
import Derived.Test.YtgdkaljbjhbeiaaKMac
set_option linter.unusedSimpArgs false
set_option linter.unusedVariables false
namespace Go.Proofs.Ytgdkaljbjhbeiaa
open Go Go.Ev

theorem ofIntU8 (x : BitVec 8) : BitVec.ofInt (IntKind.bits .u8) (x.toNat : Int) = x := by
  show BitVec.ofInt 8 (x.toNat : Int) = x
  apply BitVec.eq_of_toNat_eq
  rw [BitVec.toNat_ofInt]
  have := x.isLt
  omega
theorem wrapBv8 (x : BitVec 8) : IntKind.u8.wrap (x.toNat : Int) = (x.toNat : Int) := by
  have := x.isLt
  rw [wrapU8_mod]; omega
theorem byteBv {a : Int} (h : isByte a) : ∃ A : BitVec 8, a = (A.toNat : Int) := ⟨BitVec.ofNat 8 a.toNat, by unfold isByte at h; simp; omega⟩
theorem turnBv (M B : BitVec 8) : turnB (M.toNat : Int) (B.toNat : Int) = ((B ^^^ M).toNat : Int) := by
  unfold turnB
  rw [ofIntU8, ofIntU8]
  exact wrapBv8 _
theorem bvInj {A B : BitVec 8} : ((A.toNat : Nat) : Int) = (B.toNat : Int) ↔ A = B := ⟨fun h => BitVec.eq_of_toNat_eq (by omega), fun h => by rw [h]⟩
theorem xorZero (A B : BitVec 8) : A ^^^ B = 0#8 ↔ A = B := by
  constructor
  · intro h
    have : A ^^^ (A ^^^ B) = A ^^^ 0#8 := by rw [h]
    rw [← BitVec.xor_assoc, BitVec.xor_self, BitVec.zero_xor, BitVec.xor_zero] at this
    exact this.symm
  · rintro rfl; exact BitVec.xor_self
theorem xorSame (A B : BitVec 8) : A ^^^ B = A ↔ B = 0#8 := by
  constructor
  · intro h
    have : A ^^^ (A ^^^ B) = A ^^^ A := by rw [h]
    rw [← BitVec.xor_assoc, BitVec.xor_self, BitVec.zero_xor] at this
    exact this
  · rintro rfl; exact BitVec.xor_zero
theorem orZero (A B : BitVec 8) : A ||| B = 0#8 ↔ A = 0#8 ∧ B = 0#8 := by
  constructor
  · intro h
    constructor
    · apply BitVec.eq_of_getLsbD_eq
      intro i hi
      have := congrArg (fun v => v.getLsbD i) h
      simp at this
      simp [this.1]
    · apply BitVec.eq_of_getLsbD_eq
      intro i hi
      have := congrArg (fun v => v.getLsbD i) h
      simp at this
      simp [this.2]
  · rintro ⟨rfl, rfl⟩; rfl

/-- A byte that is turned is itself only if it is turned by nought. -/
theorem turnB_same {m b : Int} (hm : isByte m) (hb : isByte b) : turnB m b = b ↔ m = 0 := by
  obtain ⟨M, rfl⟩ := byteBv hm
  obtain ⟨B, rfl⟩ := byteBv hb
  rw [turnBv, bvInj, xorSame]
  exact ⟨fun h => by rw [h]; rfl, fun h => BitVec.eq_of_toNat_eq (by simp; omega)⟩

/-- What differed so far. -/
def differB (acc a b : Int) : Int := IntKind.u8.wrap ((BitVec.ofInt (IntKind.bits .u8) acc ||| BitVec.ofInt (IntKind.bits .u8) (turnB b a)).toNat : Int)
theorem differB_byte (acc a b : Int) : isByte (differB acc a b) := wrapIsByte _
theorem differB_zero {acc a b : Int} (hc : isByte acc) (ha : isByte a) (hb : isByte b) : differB acc a b = 0 ↔ acc = 0 ∧ a = b := by
  obtain ⟨C, rfl⟩ := byteBv hc
  obtain ⟨A, rfl⟩ := byteBv ha
  obtain ⟨B, rfl⟩ := byteBv hb
  unfold differB
  rw [turnBv, ofIntU8, ofIntU8]
  have w8 : IntKind.u8.wrap (((C ||| (A ^^^ B) : BitVec 8).toNat : Nat) : Int) = (((C ||| (A ^^^ B) : BitVec 8).toNat : Nat) : Int) := wrapBv8 _
  refine (Iff.of_eq (congrArg (· = (0 : Int)) w8)).trans ?_
  have e : ∀ X : BitVec 8, ((X.toNat : Nat) : Int) = 0 ↔ X = 0#8 := fun X => bvInj (A := X) (B := 0#8)
  rw [e, e, orZero, xorZero, bvInj]

end Go.Proofs.Ytgdkaljbjhbeiaa
