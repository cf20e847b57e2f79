/-
  The law BitsRules: it answers true, and makes new memory alone.
-/
import Derived.Test.YtafjmdeldejonaaGreatKBits
set_option linter.unusedSimpArgs false
set_option linter.unusedVariables false
namespace Go.Proofs.YtafjmdeldejonaaGreat
open Go Go.Ev

theorem getLsbD_mostB (ws : List (BitVec 32)) (k : Nat) : ∀ n, n ≤ 32 → (mostB ws n).getLsbD k = (decide (k < n) && decide (2 * ones k ws > ws.length))
  | 0, _ => by simp [mostB]
  | n + 1, hn => by
    have ih := getLsbD_mostB ws k n (by omega)
    have hbit : (1#32 <<< n).getLsbD k = decide (k = n) := by
      rw [BitVec.getLsbD_shiftLeft]
      by_cases hk : k = n
      · subst hk; simp; omega
      · have h1 : (1#32).getLsbD (k - n) = decide (k - n = 0) := by
          rw [BitVec.getLsbD_one]; simp
        rw [h1]
        simp [hk]
        omega
    unfold mostB
    split
    · rename_i hm
      rw [BitVec.getLsbD_or, ih, hbit]
      by_cases hk : k = n
      · subst hk; simp [hm]
      · have : (k < n + 1) ↔ (k < n) := by omega
        simp [hk, this]
    · rename_i hm
      rw [ih]
      by_cases hk : k = n
      · subst hk; simp [hm]
      · have : (k < n + 1) ↔ (k < n) := by omega
        simp [this]

end Go.Proofs.YtafjmdeldejonaaGreat
