/-
  What the functions of the package bits, and what the law's own helpers, answer.
-/
import Derived.Test.YtgggpnjjkcfckaaBv
import Derived.Test.YtgggpnjjkcfckaaKKit
set_option linter.unusedSimpArgs false
set_option linter.unusedVariables false
namespace Go.Proofs.Ytgggpnjjkcfckaa
open Go Go.Ev

/-- Words as values; bytes as values. -/
abbrev wv (x : BitVec 32) : Value := .int .u32 (x.toNat : Int)
abbrev bv (x : Int) : Value := .int .u8 x

/-- A word turned by some, place by place. -/
def mixB (x : BitVec 32) (ts : List Int) : BitVec 32 := ts.foldl (fun a n => a ^^^ turnB x n) 0

theorem xorV (x y : BitVec 32) : IntKind.u32.wrap ((BitVec.ofInt (IntKind.bits .u32) (x.toNat : Int) ^^^ BitVec.ofInt (IntKind.bits .u32) (y.toNat : Int)).toNat : Int) = ((x ^^^ y).toNat : Int) := by
  rw [ofIntU32, ofIntU32]; exact wrapBv (x ^^^ y)
theorem andV (x y : BitVec 32) : IntKind.u32.wrap ((BitVec.ofInt (IntKind.bits .u32) (x.toNat : Int) &&& BitVec.ofInt (IntKind.bits .u32) (y.toNat : Int)).toNat : Int) = ((x &&& y).toNat : Int) := by
  rw [ofIntU32, ofIntU32]; exact wrapBv (x &&& y)
theorem orV (x y : BitVec 32) : IntKind.u32.wrap ((BitVec.ofInt (IntKind.bits .u32) (x.toNat : Int) ||| BitVec.ofInt (IntKind.bits .u32) (y.toNat : Int)).toNat : Int) = ((x ||| y).toNat : Int) := by
  rw [ofIntU32, ofIntU32]; exact wrapBv (x ||| y)

theorem getElem?_map_lt {α β : Type} (f : α → β) {l : List α} {i : Nat} (hi : i < l.length) : (l.map f)[i]? = some (f l[i]) := by simp [hi]

/-- How many words have a 1 at a place. -/
def ones (k : Nat) (ws : List (BitVec 32)) : Nat := ws.countP (·.getLsbD k)
/-- What most words have, at the first n places. -/
def mostB (ws : List (BitVec 32)) : Nat → BitVec 32
  | 0 => 0
  | n + 1 => if 2 * ones n ws > ws.length then mostB ws n ||| (1#32 <<< n) else mostB ws n

theorem bitV (x : BitVec 32) (k : Nat) : IntKind.i64.wrap (IntKind.u32.wrap ((BitVec.ofInt (IntKind.bits .u32) (Int.fdiv (x.toNat : Int) (2 ^ min k (IntKind.bits .u32))) &&& BitVec.ofInt (IntKind.bits .u32) 1).toNat : Int)) = if x.getLsbD k then 1 else 0 := by
  rw [shrBv]
  have h1 : (1 : Int) = ((1#32).toNat : Int) := rfl
  rw [h1, andV]
  have h2 : (x >>> k) &&& 1#32 = if x.getLsbD k then 1#32 else 0#32 := by
    ext i hi
    simp only [BitVec.getElem_and, BitVec.getElem_ushiftRight]
    by_cases h0 : i = 0
    · subst h0; cases hx : x.getLsbD k <;> simp [hx]
    · have : (1#32)[i] = false := by
        rw [BitVec.getElem_eq_testBit_toNat]
        exact Nat.testBit_lt_two_pow (Nat.one_lt_two_pow h0)
      rw [this]
      split <;> simp [this]
  rw [h2]
  split <;> rfl

theorem ones_succ (k : Nat) (ws : List (BitVec 32)) (i : Nat) (h : i < ws.length) : (ones k (ws.take (i + 1)) : Int) = ones k (ws.take i) + if ws[i].getLsbD k then 1 else 0 := by
  rw [List.take_succ_eq_append_getElem h]
  simp only [ones, List.countP_append, List.countP_cons, List.countP_nil]
  split <;> simp

/-- A word's bytes, the highest first. -/
def be4 (w : BitVec 32) : List Int := [((w.toNat / 16777216 % 256 : Nat) : Int), ((w.toNat / 65536 % 256 : Nat) : Int), ((w.toNat / 256 % 256 : Nat) : Int), ((w.toNat % 256 : Nat) : Int)]

theorem byteV (w : BitVec 32) (n : Nat) : IntKind.u8.wrap (Int.fdiv (w.toNat : Int) (2 ^ min n (IntKind.bits .u32))) = ((w.toNat / 2 ^ n % 256 : Nat) : Int) := by
  rw [shrBv, wrapU8_mod, BitVec.toNat_ushiftRight, Nat.shiftRight_eq_div_pow]
  exact (Int.natCast_emod _ _).symm

theorem byteV0 (w : BitVec 32) : IntKind.u8.wrap (w.toNat : Int) = ((w.toNat % 256 : Nat) : Int) := by rw [wrapU8_mod]; exact (Int.natCast_emod _ _).symm

theorem append_u8 {s x : Sl} {vs ws : List Value} {h : Heap} (hs : Own T.uint8 1 h s vs) (hx : Rd 1 h x ws) (hone : ∀ v ∈ ws, v.oneCell' = true) (hlen : s.n + x.n ≤ 1000000000) {K : Sl → Heap → Prop}
    (hK : ∀ (s' : Sl) (h' : Heap), Own T.uint8 1 h' s' (vs ++ ws) → s'.n = s.n + x.n → Frm (fun b => s.blk = some b) h h' → (∀ b, s'.blk = some b → s.blk = some b ∨ h.size ≤ b) → (s'.a = none → s.n + x.n = 0) → K s' h') :
    opK Try.prog .slice (Builtin.append_ #[T.sl_uint8, T.sl_uint8] T.sl_uint8 #[.slice s.a s.n s.c, .slice x.a x.n x.c]) K h := by
  exact append_rule2 (e := T.uint8) (e2 := T.uint8) (sz := 1) (by_ := 1) (z := .int .u8 0) (by kernel_rfl) (by kernel_rfl) (by kernel_rfl) rfl (by omega) hs hx hone hlen hK

theorem turn_one : turnB 1#32 1 = 2147483648#32 := by decide
theorem most_three : mostB [1#32, 3#32, 2#32] 32 = 3#32 := by decide

end Go.Proofs.Ytgggpnjjkcfckaa
