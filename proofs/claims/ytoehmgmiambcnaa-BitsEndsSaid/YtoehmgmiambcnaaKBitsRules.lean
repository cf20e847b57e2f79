/-
  The law BitsRules: it answers true, and makes new memory alone.
-/
import Derived.Test.YtoehmgmiambcnaaKBits
set_option linter.unusedSimpArgs false
set_option linter.unusedVariables false
namespace Go.Proofs.Ytoehmgmiambcnaa
open Go Go.Ev

theorem getLsbD_mostB (ws : List (BitVec 32)) (k : Nat) : ∀ n, n ≤ 32 → (mostB ws n).getLsbD k = (decide (k < n) && decide (2 * ones k ws > ws.length))
  | 0, _ => by simp [mostB]
  | n + 1, hn => by
    have ih := getLsbD_mostB ws k n (by omega)
    have hbit : (1#32 <<< n).getLsbD k = decide (k = n) := by
      rw [BitVec.getLsbD_shiftLeft]
      by_cases hk : k = n
      · subst hk; simp; omega
      · have h1 : (1#32).getLsbD (k - n) = decide (k - n = 0) := by
          rw [BitVec.getLsbD_one]; simp
        rw [h1]
        simp [hk]
        omega
    unfold mostB
    split
    · rename_i hm
      rw [BitVec.getLsbD_or, ih, hbit]
      by_cases hk : k = n
      · subst hk; simp [hm]
      · have : (k < n + 1) ↔ (k < n) := by omega
        simp [hk, this]
    · rename_i hm
      rw [ih]
      by_cases hk : k = n
      · subst hk; simp [hm]
      · have : (k < n + 1) ↔ (k < n) := by omega
        simp [this]

theorem bv_ext {a b : BitVec 32} (h : ∀ k, k < 32 → a.getLsbD k = b.getLsbD k) : a = b := BitVec.eq_of_getLsbD_eq fun i hi => h i hi

theorem mostB_perm {ws vs : List (BitVec 32)} (h : ws.Perm vs) : mostB ws 32 = mostB vs 32 := by
  refine bv_ext fun k hk => ?_
  rw [getLsbD_mostB _ _ _ (by omega), getLsbD_mostB _ _ _ (by omega)]
  have h1 : ones k ws = ones k vs := h.countP_eq _
  rw [h1, h.length_eq]

theorem mostB_xxa (x a : BitVec 32) : mostB [x, x, a] 32 = x := by
  refine bv_ext fun k hk => ?_
  rw [getLsbD_mostB _ _ _ (by omega)]
  cases hx : x.getLsbD k <;> cases ha : a.getLsbD k <;> simp only [ones, List.countP_cons, List.countP_nil, List.length_cons, List.length_nil, hx, ha] <;> simp [hk]
theorem mostB_xa (x a : BitVec 32) : mostB [x, a] 32 = x &&& a := by
  refine bv_ext fun k hk => ?_
  rw [getLsbD_mostB _ _ _ (by omega), BitVec.getLsbD_and]
  cases hx : x.getLsbD k <;> cases ha : a.getLsbD k <;> simp only [ones, List.countP_cons, List.countP_nil, List.length_cons, List.length_nil, hx, ha] <;> simp [hk]
theorem mostB_x (x : BitVec 32) : mostB [x] 32 = x := by
  refine bv_ext fun k hk => ?_
  rw [getLsbD_mostB _ _ _ (by omega)]
  cases hx : x.getLsbD k <;> simp only [ones, List.countP_cons, List.countP_nil, List.length_cons, List.length_nil, hx] <;> simp [hk]
theorem mostB_none : mostB [] 32 = 0 := by decide

theorem cat_ne {a b : BitVec 32} (h : a = b) : ¬ ((((a.toNat : Int)) != ((b.toNat : Int))) = true) := by subst h; simp
theorem cat_eq {a b : BitVec 32} (h : a = b) : ((((a.toNat : Int)) == ((b.toNat : Int))) = true) := by subst h; simp

theorem notV (x : BitVec 32) : IntKind.u32.wrap ((BitVec.ofInt (IntKind.bits .u32) (if IntKind.signed .u32 then -1 else IntKind.max .u32) ^^^ BitVec.ofInt (IntKind.bits .u32) (x.toNat : Int)).toNat : Int) = ((~~~x).toNat : Int) := by
  rw [ofIntU32]
  have e : (BitVec.ofInt (IntKind.bits .u32) (if IntKind.signed .u32 then -1 else IntKind.max .u32) : BitVec (IntKind.bits .u32)) = (BitVec.allOnes 32 : BitVec 32) := by kernel_rfl
  rw [e]
  have : (BitVec.allOnes 32 ^^^ x : BitVec 32) = ~~~x := by rw [BitVec.allOnes_xor]
  show IntKind.u32.wrap ((BitVec.allOnes 32 ^^^ x : BitVec 32).toNat : Int) = _
  rw [this, wrapBv]

theorem mixB_33 (x : BitVec 32) : mixB x [3, 3] = 0 := by simp [mixB]
theorem mixB_5 (x : BitVec 32) : mixB x [5] = turnB x 5 := by simp [mixB]
theorem sum_not (x : BitVec 32) : [x, ~~~x, 1#32].sum = 0 := by
  have h : ~~~x + 1#32 = -x := (BitVec.neg_eq_not_add x).symm
  simp only [List.sum_cons, List.sum_nil, show ∀ y : BitVec 32, y + 0 = y from BitVec.add_zero]
  rw [h, BitVec.add_right_neg]
  rfl

theorem choose_ones (a b : BitVec 32) : b ^^^ (BitVec.allOnes 32 &&& (a ^^^ b)) = a := by
  rw [BitVec.allOnes_and, BitVec.xor_comm a b, ← BitVec.xor_assoc]; simp
theorem choose_none (a b : BitVec 32) : b ^^^ (0#32 &&& (a ^^^ b)) = b := by simp
theorem choose_both (x a b : BitVec 32) : (b ^^^ (x &&& (a ^^^ b))) ^^^ (b ^^^ (~~~x &&& (a ^^^ b))) = a ^^^ b := by
  refine bv_ext fun k hk => ?_
  simp only [BitVec.getLsbD_xor, BitVec.getLsbD_and, BitVec.getLsbD_not, hk, decide_true, Bool.true_and]
  cases x.getLsbD k <;> cases a.getLsbD k <;> cases b.getLsbD k <;> rfl

theorem sum_turn (x a b : BitVec 32) : [x, a, b].sum = [b, a, x].sum := by
  simp only [List.sum_cons, List.sum_nil, show ∀ y : BitVec 32, y + 0 = y from BitVec.add_zero]
  rw [BitVec.add_comm a b, BitVec.add_comm x (b + a), BitVec.add_assoc]

set_option maxHeartbeats 2000000 in
set_option maxRecDepth 100000 in
theorem BitsRules_spec (x a b : BitVec 32) (h : Heap) : HC Try.prog F.law01_BitsRules #[wv x, wv a, wv b] (fun v h' => v = .bool true ∧ Ext h h') h := by
  refine law01_BitsRules.calls ?_
  unfold law01_BitsRules.body newSlK
  simp only [notV]
  refine awake_spec fun h1 e1 => ⟨_, rfl, ?_⟩
  dsimp only
  rw [if_neg (show ¬ ((!true) = true) by simp)]
  refine Choose_spec x a a ⟨_, rfl, ?_⟩
  dsimp only
  rw [if_neg (cat_ne (by simp))]
  refine Choose_spec (BitVec.allOnes 32) a b ⟨_, rfl, ?_⟩
  dsimp only
  rw [if_neg (cat_ne (choose_ones a b))]
  refine Choose_spec 0#32 a b ⟨_, rfl, ?_⟩
  dsimp only
  rw [if_neg (cat_ne (choose_none a b))]
  refine Choose_spec x a b ⟨_, rfl, ?_⟩
  refine Choose_spec (~~~x) a b ⟨_, rfl, ?_⟩
  dsimp only
  rw [xorV, xorV, if_neg (cat_ne (choose_both x a b))]
  refine Most_spec _ [x, a, b] (Rd.new _ _ T.uint32 3 3 rfl) (by simp) ⟨_, rfl, ?_⟩
  refine Most_spec _ [b, x, a] (Rd.new _ _ T.uint32 3 3 rfl) (by simp) ⟨_, rfl, ?_⟩
  dsimp only
  rw [if_neg (cat_ne (mostB_perm (by exact (List.perm_append_comm (l₁ := [x, a]) (l₂ := [b])))))]
  refine Most_spec _ [a, x, b] (Rd.new _ _ T.uint32 3 3 rfl) (by simp) ⟨_, rfl, ?_⟩
  dsimp only
  rw [if_neg (cat_ne (mostB_perm (List.Perm.swap a x [b])))]
  refine Most_spec _ [x, x, a] (Rd.new _ _ T.uint32 3 3 rfl) (by simp) ⟨_, rfl, ?_⟩
  dsimp only
  rw [if_neg (cat_ne (mostB_xxa x a))]
  refine Most_spec _ [x, a] (Rd.new _ _ T.uint32 2 2 rfl) (by simp) ⟨_, rfl, ?_⟩
  dsimp only
  rw [andV, if_neg (cat_ne (mostB_xa x a))]
  refine Most_spec _ [x] (Rd.new _ _ T.uint32 1 1 rfl) (by simp) ⟨_, rfl, ?_⟩
  dsimp only
  rw [if_neg (cat_ne (mostB_x x))]
  refine Most_spec ⟨none, 0, 0⟩ [] (Rd.nil _ _ _ _) (by simp) ⟨_, rfl, ?_⟩
  dsimp only
  rw [mostB_none, if_neg (by decide)]
  refine Sum_spec _ [x, a, b] (Rd.new _ _ T.uint32 3 3 rfl) (by simp) ⟨_, rfl, ?_⟩
  refine Sum_spec _ [b, a, x] (Rd.new _ _ T.uint32 3 3 rfl) (by simp) ⟨_, rfl, ?_⟩
  dsimp only
  rw [if_pos (cat_eq (sum_turn x a b))]
  refine Sum_spec ⟨_, _, _⟩ [x, ~~~x, 1#32] (Rd.new _ _ T.uint32 3 3 rfl) (by simp) ⟨_, rfl, ?_⟩
  dsimp only
  rw [sum_not, if_pos (by decide)]
  refine Sum_spec _ [x, a] (Rd.new _ _ T.uint32 2 2 rfl) (by simp) ⟨_, rfl, ?_⟩
  refine Sum_spec _ [[x, a].sum, b] (Rd.new _ _ T.uint32 2 2 rfl) (by simp) ⟨_, rfl, ?_⟩
  refine Sum_spec _ [x, a, b] (Rd.new _ _ T.uint32 3 3 rfl) (by simp) ⟨_, rfl, ?_⟩
  dsimp only
  rw [if_pos (cat_eq (by simp [BitVec.add_assoc]))]
  refine Mix_spec x _ [3, 3] (Rd.new _ _ T.int 2 2 rfl) (by simp) (by simp) ⟨_, rfl, ?_⟩
  dsimp only
  rw [mixB_33, if_pos (by decide)]
  refine Mix_spec x _ [5] (Rd.new _ _ T.int 1 1 rfl) (by simp) (by simp) ⟨_, rfl, ?_⟩
  refine Turn_spec x 5 (by omega) ⟨_, rfl, ?_⟩
  dsimp only
  rw [mixB_5]
  refine ⟨by simp, ?_⟩
  repeat (first | exact e1 | refine Frm.trans ?_ (Ext.push _ _))

theorem BitsRules_walk (x : Int) (hx : (Lit.int .u32 x).wf = true) (a : Int) (ha : (Lit.int .u32 a).wf = true) (b : Int) (hb : (Lit.int .u32 b).wf = true) (h : Heap) :
    HC Try.prog F.law01_BitsRules #[.int .u32 x, .int .u32 a, .int .u32 b] (fun v h' => v = .bool true ∧ Ext h h') h := by
  have key : ∀ n : Int, (Lit.int .u32 n).wf = true → ∃ y : BitVec 32, n = (y.toNat : Int) := fun n hn => by
    simp only [Lit.wf, Bool.and_eq_true, decide_eq_true_eq] at hn
    have h1 : IntKind.u32.min = 0 := rfl
    have h2 : IntKind.u32.max = 4294967295 := rfl
    exact ltU32 (by omega) (by omega)
  obtain ⟨x, rfl⟩ := key x hx
  obtain ⟨a, rfl⟩ := key a ha
  obtain ⟨b, rfl⟩ := key b hb
  exact BitsRules_spec x a b h
end Go.Proofs.Ytoehmgmiambcnaa
