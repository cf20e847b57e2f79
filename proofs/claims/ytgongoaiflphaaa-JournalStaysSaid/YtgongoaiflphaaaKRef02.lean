/-
  The document's own digest: contracts of its functions.
-/
import Derived.Test.YtgongoaiflphaaaKDigest
set_option linter.unusedSimpArgs false
set_option linter.unusedVariables false
namespace Go.Proofs.Ytgongoaiflphaaa
open Go Go.Ev

/-- A byte of a number that is shifted down. -/
theorem shrByte (n k : Nat) (h : k ≤ 56) : IntKind.u8.wrap (Int.fdiv (n : Int) (2 ^ min (Int.toNat (k : Int)) (IntKind.bits .i64))) = ((n / 2 ^ k % 256 : Nat) : Int) := by
  have hm : min (Int.toNat (k : Int)) (IntKind.bits .i64) = k := by rw [Int.toNat_natCast]; show min k 64 = k; omega
  have hp : ((2 : Int) ^ k) = ((2 ^ k : Nat) : Int) := by rw [Int.natCast_pow]; rfl
  rw [hm, hp, Int.fdiv_eq_ediv_of_nonneg _ (Int.natCast_nonneg _), wrapU8_mod, ← Int.natCast_ediv]
  generalize n / 2 ^ k = q
  omega

theorem getD_get {ws : List (BitVec 32)} {i : Nat} (h : i < ws.length) : (ws.map wv)[i]? = some (Kd.inj (.int .u32) ((ws.getD i 0).toNat : Int)) := by
  rw [List.getElem?_map, List.getElem?_eq_getElem h, List.getD, List.getElem?_eq_getElem h]; rfl

theorem compN_succ (v : S8) (bs : List Int) (n : Nat) : compN v bs (n + 1) = compS (compN v bs n) ((bs.drop (64 * n)).take 64) := by
  rw [compN_add v bs 1 n]; rfl

end Go.Proofs.Ytgongoaiflphaaa
