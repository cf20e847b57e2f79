/-
  The law BitsRules: it answers true, and makes new memory alone.
-/
import Derived.Test.YtgongoaiflphaaaGreatKBits
set_option linter.unusedSimpArgs false
set_option linter.unusedVariables false
namespace Go.Proofs.YtgongoaiflphaaaGreat
open Go Go.Ev

theorem getLsbD_mostB (ws : List (BitVec 32)) (k : Nat) : ∀ n, n ≤ 32 → (mostB ws n).getLsbD k = (decide (k < n) && decide (2 * ones k ws > ws.length))
  | 0, _ => by simp [mostB]
  | n + 1, hn => by
    have ih := getLsbD_mostB ws k n (by omega)
    have hbit : (1#32 <<< n).getLsbD k = decide (k = n) := by
      rw [BitVec.getLsbD_shiftLeft]
      by_cases hk : k = n
      · subst hk; simp; omega
      · have h1 : (1#32).getLsbD (k - n) = decide (k - n = 0) := by
          rw [BitVec.getLsbD_one]; simp
        rw [h1]
        simp [hk]
        omega
    unfold mostB
    split
    · rename_i hm
      rw [BitVec.getLsbD_or, ih, hbit]
      by_cases hk : k = n
      · subst hk; simp [hm]
      · have : (k < n + 1) ↔ (k < n) := by omega
        simp [hk, this]
    · rename_i hm
      rw [ih]
      by_cases hk : k = n
      · subst hk; simp [hm]
      · have : (k < n + 1) ↔ (k < n) := by omega
        simp [this]

theorem bv_ext {a b : BitVec 32} (h : ∀ k, k < 32 → a.getLsbD k = b.getLsbD k) : a = b := BitVec.eq_of_getLsbD_eq fun i hi => h i hi

theorem mostB_perm {ws vs : List (BitVec 32)} (h : ws.Perm vs) : mostB ws 32 = mostB vs 32 := by
  refine bv_ext fun k hk => ?_
  rw [getLsbD_mostB _ _ _ (by omega), getLsbD_mostB _ _ _ (by omega)]
  have h1 : ones k ws = ones k vs := h.countP_eq _
  rw [h1, h.length_eq]

theorem mostB_xxa (x a : BitVec 32) : mostB [x, x, a] 32 = x := by
  refine bv_ext fun k hk => ?_
  rw [getLsbD_mostB _ _ _ (by omega)]
  cases hx : x.getLsbD k <;> cases ha : a.getLsbD k <;> simp only [ones, List.countP_cons, List.countP_nil, List.length_cons, List.length_nil, hx, ha] <;> simp [hk]
theorem mostB_xa (x a : BitVec 32) : mostB [x, a] 32 = x &&& a := by
  refine bv_ext fun k hk => ?_
  rw [getLsbD_mostB _ _ _ (by omega), BitVec.getLsbD_and]
  cases hx : x.getLsbD k <;> cases ha : a.getLsbD k <;> simp only [ones, List.countP_cons, List.countP_nil, List.length_cons, List.length_nil, hx, ha] <;> simp [hk]
theorem mostB_x (x : BitVec 32) : mostB [x] 32 = x := by
  refine bv_ext fun k hk => ?_
  rw [getLsbD_mostB _ _ _ (by omega)]
  cases hx : x.getLsbD k <;> simp only [ones, List.countP_cons, List.countP_nil, List.length_cons, List.length_nil, hx] <;> simp [hk]
theorem mostB_none : mostB [] 32 = 0 := by decide

theorem cat_ne {a b : BitVec 32} (h : a = b) : ¬ ((((a.toNat : Int)) != ((b.toNat : Int))) = true) := by subst h; simp
theorem cat_eq {a b : BitVec 32} (h : a = b) : ((((a.toNat : Int)) == ((b.toNat : Int))) = true) := by subst h; simp

theorem notV (x : BitVec 32) : IntKind.u32.wrap ((BitVec.ofInt (IntKind.bits .u32) (if IntKind.signed .u32 then -1 else IntKind.max .u32) ^^^ BitVec.ofInt (IntKind.bits .u32) (x.toNat : Int)).toNat : Int) = ((~~~x).toNat : Int) := by
  rw [ofIntU32]
  have e : (BitVec.ofInt (IntKind.bits .u32) (if IntKind.signed .u32 then -1 else IntKind.max .u32) : BitVec (IntKind.bits .u32)) = (BitVec.allOnes 32 : BitVec 32) := by kernel_rfl
  rw [e]
  have : (BitVec.allOnes 32 ^^^ x : BitVec 32) = ~~~x := by rw [BitVec.allOnes_xor]
  show IntKind.u32.wrap ((BitVec.allOnes 32 ^^^ x : BitVec 32).toNat : Int) = _
  rw [this, wrapBv]

theorem mixB_33 (x : BitVec 32) : mixB x [3, 3] = 0 := by simp [mixB]
theorem mixB_5 (x : BitVec 32) : mixB x [5] = turnB x 5 := by simp [mixB]
theorem sum_not (x : BitVec 32) : [x, ~~~x, 1#32].sum = 0 := by
  have h : ~~~x + 1#32 = -x := (BitVec.neg_eq_not_add x).symm
  simp only [List.sum_cons, List.sum_nil, show ∀ y : BitVec 32, y + 0 = y from BitVec.add_zero]
  rw [h, BitVec.add_right_neg]
  rfl

theorem choose_ones (a b : BitVec 32) : b ^^^ (BitVec.allOnes 32 &&& (a ^^^ b)) = a := by
  rw [BitVec.allOnes_and, BitVec.xor_comm a b, ← BitVec.xor_assoc]; simp
theorem choose_none (a b : BitVec 32) : b ^^^ (0#32 &&& (a ^^^ b)) = b := by simp
theorem choose_both (x a b : BitVec 32) : (b ^^^ (x &&& (a ^^^ b))) ^^^ (b ^^^ (~~~x &&& (a ^^^ b))) = a ^^^ b := by
  refine bv_ext fun k hk => ?_
  simp only [BitVec.getLsbD_xor, BitVec.getLsbD_and, BitVec.getLsbD_not, hk, decide_true, Bool.true_and]
  cases x.getLsbD k <;> cases a.getLsbD k <;> cases b.getLsbD k <;> rfl

theorem sum_turn (x a b : BitVec 32) : [x, a, b].sum = [b, a, x].sum := by
  simp only [List.sum_cons, List.sum_nil, show ∀ y : BitVec 32, y + 0 = y from BitVec.add_zero]
  rw [BitVec.add_comm a b, BitVec.add_comm x (b + a), BitVec.add_assoc]

end Go.Proofs.YtgongoaiflphaaaGreat
