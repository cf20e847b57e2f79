/-
  What bytes come to: the rules of the chapter on digests, in plain Lean.
-/
import Derived.Test.YtijipdaofojbiaaKBitsPlaces
set_option linter.unusedSimpArgs false
set_option linter.unusedVariables false
namespace Go.Proofs.Ytijipdaofojbiaa
open Go Go.Ev

structure S8 where
  a : BitVec 32
  b : BitVec 32
  c : BitVec 32
  d : BitVec 32
  e : BitVec 32
  f : BitVec 32
  g : BitVec 32
  i : BitVec 32

def S8.list (s : S8) : List (BitVec 32) := [s.a, s.b, s.c, s.d, s.e, s.f, s.g, s.i]
def S8.add (s t : S8) : S8 := ⟨s.a + t.a, s.b + t.b, s.c + t.c, s.d + t.d, s.e + t.e, s.f + t.f, s.g + t.g, s.i + t.i⟩

def majB (a b c : BitVec 32) : BitVec 32 := ((a &&& b) ||| (a &&& c)) ||| (b &&& c)
def mS (s : S8) (w k : BitVec 32) : BitVec 32 := [s.i, mixB s.e [6, 11, 25], s.g ^^^ (s.e &&& (s.f ^^^ s.g)), k, w].sum
def nS (s : S8) : BitVec 32 := [mixB s.a [2, 13, 22], majB s.a s.b s.c].sum
def stepS (s : S8) (w k : BitVec 32) : S8 := ⟨mS s w k + nS s, s.a, s.b, s.c, s.d + mS s w k, s.e, s.f, s.g⟩

def smallB (x : BitVec 32) (i j k : Int) : BitVec 32 := mixB x [i, j] ^^^ shiftB x k
def nextW (w : List (BitVec 32)) (t : Nat) : BitVec 32 := [w.getD (t - 16) 0, smallB (w.getD (t - 15) 0) 7 18 3, w.getD (t - 7) 0, smallB (w.getD (t - 2) 0) 17 19 10].sum
def schedTo (ws : List (BitVec 32)) : Nat → List (BitVec 32)
  | 0 => ws
  | n + 1 => schedTo ws n ++ [nextW (schedTo ws n) (ws.length + n)]
theorem schedTo_length (ws : List (BitVec 32)) : ∀ n, (schedTo ws n).length = ws.length + n
  | 0 => rfl
  | n + 1 => by rw [schedTo, List.length_append, schedTo_length ws n]; simp; omega

def constK : List (BitVec 32) := [
  0x428a2f98, 0x71374491, 0xb5c0fbcf, 0xe9b5dba5, 0x3956c25b, 0x59f111f1, 0x923f82a4, 0xab1c5ed5,
  0xd807aa98, 0x12835b01, 0x243185be, 0x550c7dc3, 0x72be5d74, 0x80deb1fe, 0x9bdc06a7, 0xc19bf174,
  0xe49b69c1, 0xefbe4786, 0x0fc19dc6, 0x240ca1cc, 0x2de92c6f, 0x4a7484aa, 0x5cb0a9dc, 0x76f988da,
  0x983e5152, 0xa831c66d, 0xb00327c8, 0xbf597fc7, 0xc6e00bf3, 0xd5a79147, 0x06ca6351, 0x14292967,
  0x27b70a85, 0x2e1b2138, 0x4d2c6dfc, 0x53380d13, 0x650a7354, 0x766a0abb, 0x81c2c92e, 0x92722c85,
  0xa2bfe8a1, 0xa81a664b, 0xc24b8b70, 0xc76c51a3, 0xd192e819, 0xd6990624, 0xf40e3585, 0x106aa070,
  0x19a4c116, 0x1e376c08, 0x2748774c, 0x34b0bcb5, 0x391c0cb3, 0x4ed8aa4a, 0x5b9cca4f, 0x682e6ff3,
  0x748f82ee, 0x78a5636f, 0x84c87814, 0x8cc70208, 0x90befffa, 0xa4506ceb, 0xbef9a3f7, 0xc67178f2]
def initS : S8 := ⟨0x6a09e667, 0xbb67ae85, 0x3c6ef372, 0xa54ff53a, 0x510e527f, 0x9b05688c, 0x1f83d9ab, 0x5be0cd19⟩

/-- The first n steps. -/
def roundsS (w : List (BitVec 32)) (v : S8) : Nat → S8
  | 0 => v
  | n + 1 => stepS (roundsS w v n) (w.getD n 0) (constK.getD n 0)
def compS (v : S8) (blk : List Int) : S8 := v.add (roundsS (schedTo (wordsOf blk) 48) v 64)

/-- The first n blocks. -/
def compN (v : S8) (bs : List Int) : Nat → S8
  | 0 => v
  | n + 1 => compN (compS v (bs.take 64)) (bs.drop 64) n
def compAll (v : S8) (bs : List Int) : S8 := compN v bs (bs.length / 64)
def tailOf (bs : List Int) : List Int := bs.drop (64 * (bs.length / 64))

theorem compN_append (v : S8) (bs cs : List Int) : ∀ n, 64 * n ≤ bs.length → compN v (bs ++ cs) n = compN v bs n := by
  intro n
  induction n generalizing v bs with
  | zero => intro _; rfl
  | succ n ih =>
    intro h
    rw [compN, compN, List.take_append_of_le_length (by omega), List.drop_append_of_le_length (by omega)]
    exact ih _ _ (by rw [List.length_drop]; omega)
theorem compN_add (v : S8) (bs : List Int) (m : Nat) : ∀ n, compN v bs (n + m) = compN (compN v bs n) (bs.drop (64 * n)) m := by
  intro n
  induction n generalizing v bs with
  | zero => simp [compN]
  | succ n ih =>
    rw [show n + 1 + m = (n + m) + 1 from by omega, compN, compN, ih, List.drop_drop]
    congr 2
    omega
theorem compAll_append (v : S8) (bs cs : List Int) : compAll v (bs ++ cs) = compAll (compAll v bs) (tailOf bs ++ cs) := by
  unfold compAll
  have h1 : (bs ++ cs).length / 64 = bs.length / 64 + (tailOf bs ++ cs).length / 64 := by
    unfold tailOf; simp only [List.length_append, List.length_drop]; omega
  rw [h1, compN_add, compN_append v bs cs _ (by omega)]
  congr 1
  unfold tailOf
  rw [List.drop_append_of_le_length (by omega)]
theorem tailOf_append (bs cs : List Int) : tailOf (bs ++ cs) = tailOf (tailOf bs ++ cs) := by
  have h2 : (bs ++ cs).length = 64 * (bs.length / 64) + (tailOf bs ++ cs).length := by
    unfold tailOf; simp only [List.length_append, List.length_drop]; omega
  have h3 : tailOf bs ++ cs = (bs ++ cs).drop (64 * (bs.length / 64)) := by unfold tailOf; rw [List.drop_append_of_le_length (by omega)]
  rw [h3]
  conv => lhs; unfold tailOf
  conv => rhs; unfold tailOf
  rw [List.drop_drop]
  congr 1
  rw [List.length_drop]
  omega
theorem tailOf_length (bs : List Int) : (tailOf bs).length = bs.length % 64 := by unfold tailOf; rw [List.length_drop]; omega
theorem tailOf_lt {bs : List Int} (h : bs.length < 64) : tailOf bs = bs := by unfold tailOf; rw [Nat.div_eq_of_lt h]; rfl
theorem compAll_block (v : S8) (bs : List Int) (h : 64 ≤ bs.length) : compAll v bs = compAll (compS v (bs.take 64)) (bs.drop 64) ∧ tailOf bs = tailOf (bs.drop 64) := by
  constructor
  · unfold compAll
    rw [show bs.length / 64 = (bs.drop 64).length / 64 + 1 from by rw [List.length_drop]; omega, compN]
  · unfold tailOf
    rw [List.drop_drop]
    congr 1
    rw [List.length_drop]
    omega

/-- A length's eight bytes, the highest first. -/
def len8 (n : Nat) : List Int := (List.range 8).map fun j => ((n / 256 ^ (7 - j) % 256 : Nat) : Int)
/-- What fills up n bytes. -/
def padOf (n : Nat) : List Int := 128 :: (List.replicate ((119 - n % 64) % 64) 0 ++ len8 (8 * n))
def shaB (bs : List Int) : List Int := (compAll initS (bs ++ padOf bs.length)).list.flatMap be4

theorem padOf_length (n : Nat) : (n + (padOf n).length) % 64 = 0 := by
  unfold padOf len8; simp; omega
theorem shaB_length (bs : List Int) : (shaB bs).length = 32 := by
  unfold shaB S8.list; simp [be4]
theorem shaB_byte (bs : List Int) : ∀ x ∈ shaB bs, isByte x := by
  intro x hx
  obtain ⟨w, _, hw⟩ := List.mem_flatMap.1 hx
  exact be4_byte w x hw

end Go.Proofs.Ytijipdaofojbiaa
