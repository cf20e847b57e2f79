/-
  Words of thirty-two bits: the model's whole numbers as BitVec 32. Plain Lean; no program stands here.
-/
import Derived.Test.YtijipdaofojbiaaMem
set_option linter.unusedSimpArgs false
set_option linter.unusedVariables false
namespace Go.Ev
open Go

theorem ofIntU32 (x : BitVec 32) : BitVec.ofInt (IntKind.bits .u32) (x.toNat : Int) = x := by
  show BitVec.ofInt 32 (x.toNat : Int) = x
  apply BitVec.eq_of_toNat_eq
  simp [BitVec.toNat_ofInt]

theorem wrapBv (x : BitVec 32) : IntKind.u32.wrap (x.toNat : Int) = (x.toNat : Int) := wrapU32 (by omega) (by have := x.isLt; omega)
theorem addBv (x y : BitVec 32) : IntKind.u32.wrap ((x.toNat : Int) + (y.toNat : Int)) = ((x + y).toNat : Int) := by
  rw [wrapU32_mod, BitVec.toNat_add]; omega

theorem shrBv (x : BitVec 32) (n : Nat) : Int.fdiv (x.toNat : Int) (2 ^ min n (IntKind.bits .u32)) = ((x >>> n).toNat : Int) := by
  have hb : IntKind.bits .u32 = 32 := rfl
  rw [hb, BitVec.toNat_ushiftRight, Nat.shiftRight_eq_div_pow]
  have hf : Int.fdiv (x.toNat : Int) (2 ^ min n 32) = (x.toNat : Int) / ((2 ^ min n 32 : Nat) : Int) := by
    rw [Int.fdiv_eq_ediv_of_nonneg _ (by exact Int.le_of_lt (Int.pow_pos (by decide)))]
    norm_cast
  rw [hf]
  norm_cast
  by_cases h : n ≤ 32
  · rw [Nat.min_eq_left h]
  · have h1 : min n 32 = 32 := by omega
    rw [h1]
    have hx : x.toNat < 2 ^ 32 := x.isLt
    rw [Nat.div_eq_of_lt hx, Nat.div_eq_of_lt]
    exact Nat.lt_of_lt_of_le hx (Nat.pow_le_pow_right (by decide) (by omega))

theorem shlBv (x : BitVec 32) (n : Nat) : IntKind.u32.wrap ((x.toNat : Int) * 2 ^ min n (IntKind.bits .u32)) = ((x <<< n).toNat : Int) := by
  have hb : IntKind.bits .u32 = 32 := rfl
  rw [hb, wrapU32_mod, BitVec.toNat_shiftLeft, Nat.shiftLeft_eq]
  have e1 : (x.toNat : Int) * 2 ^ min n 32 % 4294967296 = ((x.toNat * 2 ^ min n 32 % 4294967296 : Nat) : Int) := by rw [Int.natCast_emod, Int.natCast_mul, Int.natCast_pow]; rfl
  rw [e1]
  simp only [Nat.reducePow]
  by_cases h : n ≤ 32
  · rw [Nat.min_eq_left h]
  · have h1 : min n 32 = 32 := by omega
    rw [h1]
    obtain ⟨m, rfl⟩ : ∃ m, n = 32 + m := ⟨n - 32, by omega⟩
    rw [Nat.pow_add]
    simp only [Nat.reducePow]
    have e2 : x.toNat * (4294967296 * 2 ^ m) % 4294967296 = 0 := by
      rw [← Nat.mul_assoc, Nat.mul_right_comm, Nat.mul_mod_left]
    rw [e2]
    simp

theorem ltU32 {n : Int} (h0 : 0 ≤ n) (h1 : n < 4294967296) : ∃ x : BitVec 32, n = (x.toNat : Int) :=
  ⟨BitVec.ofNat 32 n.toNat, by simp; omega⟩

/-- Turned right. -/
def turnB (x : BitVec 32) (n : Int) : BitVec 32 := x.rotateRight (n % 32).toNat

theorem andU64 (k : Int) : IntKind.u64.wrap ((BitVec.ofInt (IntKind.bits .u64) (IntKind.u64.wrap k) &&& BitVec.ofInt (IntKind.bits .u64) 31).toNat : Int) = k % 32 := by
  show IntKind.u64.wrap ((BitVec.ofInt 64 (IntKind.u64.wrap k) &&& BitVec.ofInt 64 31).toNat : Int) = k % 32
  rw [BitVec.toNat_and]
  have h31 : (BitVec.ofInt 64 31).toNat = 2 ^ 5 - 1 := by decide
  rw [h31, Nat.and_two_pow_sub_one_eq_mod, wrapU64_mod k]
  have h1 : (BitVec.ofInt 64 (k % 18446744073709551616)).toNat = (k % 18446744073709551616).toNat := by
    simp [BitVec.toNat_ofInt]
  rw [h1, wrapU64_mod]
  omega

end Go.Ev
