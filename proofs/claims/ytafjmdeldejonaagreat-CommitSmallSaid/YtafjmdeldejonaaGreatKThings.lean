/-
  In plain Lean: what a table was asked.
-/
import Derived.Test.YtafjmdeldejonaaGreatKTags
set_option linter.unusedSimpArgs false
set_option linter.unusedVariables false
namespace Go.Proofs.YtafjmdeldejonaaGreat
open Go Go.Ev

/-! ### Strings, numbers -/

theorem numT_inj {a b : Nat} (ha : a ≤ 1000000) (hb : b ≤ 1000000) (h : numT (a : Int) = numT (b : Int)) : a = b := by
  unfold numT at h
  have h1 := List.append_inj_left' h rfl
  have h2 := List.append_inj_right h1 rfl
  have g0 := congrArg (fun l => l[7]?) h2
  have g1 := congrArg (fun l => l[6]?) h2
  have g2 := congrArg (fun l => l[5]?) h2
  simp only [eightB, List.map_cons, List.map_nil, List.getElem?_cons_succ, List.getElem?_cons_zero, Option.some.injEq, wrapU8_mod] at g0 g1 g2
  have wa : IntKind.u64.wrap (a : Int) = a := by simp only [IntKind.wrap, IntKind.bits, IntKind.signed]; simp; omega
  have wb : IntKind.u64.wrap (b : Int) = b := by simp only [IntKind.wrap, IntKind.bits, IntKind.signed]; simp; omega
  rw [wa, wb] at g0 g1 g2
  rw [Int.fdiv_eq_ediv_of_nonneg _ (by decide), Int.fdiv_eq_ediv_of_nonneg _ (by decide)] at g0 g1 g2
  simp only [show (2 : Int) ^ 0 = 1 from rfl, show (2 : Int) ^ 8 = 256 from rfl, show (2 : Int) ^ 16 = 65536 from rfl] at g0 g1 g2
  omega

/-! ### What a table was asked -/

end Go.Proofs.YtafjmdeldejonaaGreat
