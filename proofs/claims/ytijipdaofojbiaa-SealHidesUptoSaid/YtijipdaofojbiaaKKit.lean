/-
  The law's kit: contracts in colours. Printed by kitc.py.
-/
import Derived.Test.YtijipdaofojbiaaKRows
import Derived.Test.YtijipdaofojbiaaCol
set_option linter.unusedSimpArgs false
set_option linter.unusedVariables false
namespace Go.Proofs.Ytijipdaofojbiaa
open Go Go.Ev

theorem oneBy (xs : List Int) : ∀ v ∈ xs.map byV, v.oneCell' = true := by intro v hv; obtain ⟨_, _, rfl⟩ := List.mem_map.1 hv; rfl

theorem CloneBytes_spec (g : GH) (c : Nat) (s : Sl) (bs : List Int) (hr : Rd 1 g.h s (bs.map byV)) (hl : bs.length ≤ 1000000000) {R : Value → Heap → Prop}
    (H : ∀ (s' : Sl) (g' : GH), Mv [] g g' → OwnC T.uint8 1 g' c s' (bs.map byV) → R (.slice s'.a s'.n s'.c) g'.h) : HC Try.prog F.slices_Clone_byte_byte #[.slice s.a s.n s.c] R g.h := by
  refine slices_Clone_byte_byte.calls (s0 := s) ?_
  unfold slices_Clone_byte_byte.body
  have hn := hr.len
  simp only [List.length_map] at hn
  cases ha : s.a with
  | none =>
    try simp only [derefK_some, fldK_some, Nat.zero_add, Nat.add_zero, Nat.reduceAdd, inj_int, inj_bool, inj_str, inj_ptr, inj_map, inj_slice, exists_eq_left, List.getElem?_toArray, List.getElem?_cons_zero, List.getElem?_cons_succ, Option.isNone_some, Option.isNone_none, Bool.not_true, Bool.not_false, Bool.false_eq_true, if_true, if_false, reduceIte, eq_self, not_true_eq_false, not_false_eq_true, bne_self_eq_false, beq_self_eq_true, decide_true, decide_false, decide_eq_true_eq, beq_iff_eq, bne_iff_ne, ne_eq]
    have : bs = [] := by
      rcases hr.2 with h | ⟨b, o, y, e, fz, h, _⟩
      · simpa using h
      · rw [ha] at h; cases h
    subst this
    exact H ⟨none, 0, 0⟩ g (Mv.refl _ _) (OwnC.nil _ _ _ _)
  | some a =>
    try simp only [derefK_some, fldK_some, Nat.zero_add, Nat.add_zero, Nat.reduceAdd, inj_int, inj_bool, inj_str, inj_ptr, inj_map, inj_slice, exists_eq_left, List.getElem?_toArray, List.getElem?_cons_zero, List.getElem?_cons_succ, Option.isNone_some, Option.isNone_none, Bool.not_true, Bool.not_false, Bool.false_eq_true, if_true, if_false, reduceIte, eq_self, not_true_eq_false, not_false_eq_true, bne_self_eq_false, beq_self_eq_true, decide_true, decide_false, decide_eq_true_eq, beq_iff_eq, bne_iff_ne, ne_eq]
    have m0 := Mv.refl [1] g.base
    refine newSl_C g.base 1 rfl fun s1 q1 m1 o1 hn1 _ => ?_
    rw [← ha]
    refine append_C (e := T.uint8) (e2 := T.uint8) (sz := 1) (by_ := 1) (z := .int .u8 0) (by kernel_rfl) (by kernel_rfl) (by kernel_rfl) rfl (by omega) o1 (hr.arg (m0.step m1 (by simp)) (by simp)).rd (oneBy _) (by omega) fun s2 q2 m2 o2 _ _ => ?_
    have m := (m0.step m1 (by simp)).step m2 (by simp)
    exact H s2 (g.via q2 fun _ => c) (m.via (by simp) _) (o2.via m (by simp) _)

/-- How many bytes rows have. -/
def total (xss : List (List Int)) : Nat := xss.flatten.length
theorem total_take {xss : List (List Int)} {i : Nat} (h : i < xss.length) : total (xss.take (i + 1)) = total (xss.take i) + (xss[i]'h).length := by
  unfold total; rw [List.take_succ_eq_append_getElem h, List.flatten_append]; simp
theorem total_le {xss : List (List Int)} (i : Nat) : total (xss.take i) ≤ total xss := by
  unfold total
  conv => rhs; rw [← List.take_append_drop i xss]
  rw [List.flatten_append]; simp


/-! ### Rows of rows of bytes -/

end Go.Proofs.Ytijipdaofojbiaa
