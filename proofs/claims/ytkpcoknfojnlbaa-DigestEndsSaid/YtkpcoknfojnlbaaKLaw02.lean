/-
  The statements of layer 02, their parts: the example, sizes, tags held against each other.
-/
import Derived.Test.YtkpcoknfojnlbaaKRef02
import Derived.Test.YtkpcoknfojnlbaaFlat
import Derived.Test.YtkpcoknfojnlbaaConv
set_option linter.unusedSimpArgs false
set_option linter.unusedVariables false
namespace Go.Proofs.Ytkpcoknfojnlbaa
open Go Go.Ev

abbrev ShTag : Sh := .arr 32 (.int .u8)
theorem encTag (t : List Int) : Sh.enc ShTag t = t.map byV := by
  show t.flatMap (fun n => [Value.int .u8 n]) = t.map byV
  induction t with
  | nil => rfl
  | cons x t ih => rw [List.flatMap_cons, ih]; rfl
theorem okTag {t : List Int} (hl : t.length = 32) (hb : ∀ x ∈ t, isByte x) : Sh.ok ShTag t := ⟨hl, fun x hx => by have := hb x hx; unfold isByte at this; exact ⟨this.1, this.2⟩⟩

theorem tag_eq {x y : List Int} (hx : x.length = 32) (hxb : ∀ v ∈ x, isByte v) (hy : y.length = 32) (hyb : ∀ v ∈ y, isByte v) {ox oy : Operand} {K : Bool → Prop} (H : K (decide (x = y))) : eqK Try.prog (binSem .eql T.api_Tag ox oy (.agg (tagA x)) (.agg (tagA y))) K := by
  have h := eqK_flat (P := Try.prog) ShTag (t := T.api_Tag) (m := 10) (by decide) (x := x) (y := y) (ox := ox) (oy := oy) rfl (by kernel_rfl) (by kernel_rfl) (by kernel_rfl) (by kernel_rfl) (by kernel_rfl) (okTag hx hxb) (okTag hy hyb) (K := K)
    (fun r hr => by
      have : r = decide (x = y) := by cases r <;> simp_all
      rw [this]; exact H)
  rw [encTag, encTag] at h
  exact h
theorem tag_neq {x y : List Int} (hx : x.length = 32) (hxb : ∀ v ∈ x, isByte v) (hy : y.length = 32) (hyb : ∀ v ∈ y, isByte v) {ox oy : Operand} {K : Bool → Prop} (H : K (decide (¬ x = y))) : eqK Try.prog (binSem .neq T.api_Tag ox oy (.agg (tagA x)) (.agg (tagA y))) K := by
  have h := neqK_flat (P := Try.prog) ShTag (t := T.api_Tag) (m := 10) (by decide) (x := x) (y := y) (ox := ox) (oy := oy) rfl (by kernel_rfl) (by kernel_rfl) (by kernel_rfl) (by kernel_rfl) (by kernel_rfl) (okTag hx hxb) (okTag hy hyb) (K := K)
    (fun r hr => by
      have : r = decide (¬ x = y) := by cases r <;> simp_all
      rw [this]; exact H)
  rw [encTag, encTag] at h
  exact h

/-- Digests are alike that are of alike bytes. -/
theorem sha_eq {x y : List Int} {ox oy : Operand} {K : Bool → Prop} (he : x = y) (H : K true) : eqK Try.prog (binSem .eql T.api_Tag ox oy (.agg (tagA (shaB x))) (.agg (tagA (shaB y)))) K :=
  tag_eq (shaB_length x) (shaB_byte x) (shaB_length y) (shaB_byte y) (by subst he; simpa using H)
theorem sha_neq {x y : List Int} {ox oy : Operand} {K : Bool → Prop} (he : x = y) (H : K false) : eqK Try.prog (binSem .neq T.api_Tag ox oy (.agg (tagA (shaB x))) (.agg (tagA (shaB y)))) K :=
  tag_neq (shaB_length x) (shaB_byte x) (shaB_length y) (shaB_byte y) (by subst he; simpa using H)

theorem size_spec {g : GH} {c : Nat} (v : Sl) (xss : List (List Int)) (hr : RowsC g c v xss) (hx : ∀ xs ∈ xss, xs.length ≤ 140737488351232) (hl : xss.length ≤ 140737488351232) {R : Value → Heap → Prop} (H : ∀ n : Nat, (n ≤ 700 → total xss ≤ 700) → R (.int .i64 (n : Int)) g.h) :
    HC Try.prog F.law02_size #[.slice v.a v.n v.c] R g.h := by
  refine law02_size.calls (rows0 := v) ?_
  unfold law02_size.body
  have hn := hr.len
  refine loopW_rule (fun st h' => ∃ i : Nat, i ≤ xss.length ∧ st = (((v.n + total (xss.take i) : Nat) : Int), (i : Int)) ∧ g.h = h' ∧ v.n + total (xss.take i) ≤ 1000000000000000) (fun st => xss.length - st.2.toNat) ⟨0, by omega, by simp [total], rfl, by simp [total]; omega⟩ ?_
  rintro X _ _ ⟨i, hi, rfl, rfl, hb⟩ hX
  have htl := total_le (xss := xss) i
  dsimp only
  by_cases hlt : i < xss.length
  · rw [if_pos (by simp; omega)]
    by_cases hm : v.n + total (xss.take i) ≤ 700
    · rw [if_pos (by simp; omega)]
      have := hx _ (List.getElem_mem hlt)
      refine hr.idx (by kernel_rfl) hlt fun s1 r1 _ => ?_
      have h1 := r1.len
      have ht := total_take hlt
      simp at h1
      rw [wrapI64 (by omega) (by omega), wrapSucc (by omega)]
      refine hX _ _ ⟨i + 1, by omega, by simp; omega, rfl, by omega⟩ (by simp; omega)
    · rw [if_neg (by simp; omega)]
      exact H _ (by omega)
  · rw [if_neg (by simp; omega)]
    have hi' : i = xss.length := by omega
    subst hi'
    rw [List.take_length] at *
    exact H _ (by omega)

theorem abc_spec (g : GH) {R : Value → Heap → Prop} (H : ∀ g' : GH, Mv [] g g' → R (.agg (tagA (shaB [97, 98, 99]))) g'.h) : HC Try.prog F.law02_abc #[] R g.h := by
  refine law02_abc.calls ?_
  unfold law02_abc.body
  rw [zTag]
  refine new_C g.base 1 fun p q1 m1 b1 => ?_
  refine ⟨tagA abcB, fun w => by kernel_rfl, ?_⟩
  refine result_C (n := 32) szTag dTag b1 (by simp) (by rw [← sha_abc]; simp [shaB_length]) (fun v hv => oneBy _ v hv) fun q2 m2 => ?_
  have m := (Mv.refl [1] g.base).step m1 (by simp) |>.step m2 (by simp)
  rw [← sha_abc]
  exact H (g.via q2 fun _ => 0) (m.via (by simp) _)

theorem byt (xs : List Int) (h : xs.all (fun x => decide (0 ≤ x) && decide (x ≤ 255)) = true) : ∀ x ∈ xs, isByte x := by
  intro x hx
  have := List.all_eq_true.1 h x hx
  simp at this
  unfold isByte; omega

theorem awake_spec (g : GH) {R : Value → Heap → Prop} (H : ∀ g' : GH, Mv [] g g' → R (.bool true) g'.h) : HC Try.prog F.law02_awake #[] R g.h := by
  refine law02_awake.calls ?_
  unfold law02_awake.body
  have m := Mv.refl [1, 2, 3] g.base
  refine NewHash_spec g.base 1 2 fun p q1 m1 d1 => ⟨_, rfl, ?_⟩
  replace m := m.step m1 (by simp)
  refine newSl_C q1 3 rfl fun s2 q2 m2 o2 n2 c2 => ?_
  replace m := m.step m2 (by simp)
  replace d1 := d1.mv m2 (by simp) (by simp)
  refine conv_C (P := Try.prog) (t := T.sl_uint8) (e := T.uint8) (by kernel_rfl) (by kernel_rfl) o2 (by simp) fun q3 m3 k3 => ?_
  replace m := m.step m3 (by simp)
  replace d1 := d1.mv m3 (by simp) (by simp)
  have r3 := k3 _ _ _ _ o2.rd
  refine newSl_C q3 3 rfl fun s4 q4 m4 o4 n4 c4 => ?_
  replace m := m.step m4 (by simp)
  replace d1 := d1.mv m4 (by simp) (by simp)
  replace r3 := r3.mv m4 (by simp)
  refine conv_C (P := Try.prog) (t := T.sl_uint8) (e := T.uint8) (by kernel_rfl) (by kernel_rfl) o4 (by simp) fun q5 m5 k5 => ?_
  replace m := m.step m5 (by simp)
  replace d1 := d1.mv m5 (by simp) (by simp)
  have r5 := k5 _ _ _ _ o4.rd
  replace r3 := k5 _ _ _ _ r3
  refine newSl_C q5 3 rfl fun s6 q6 m6 o6 n6 c6 => ?_
  replace m := m.step m6 (by simp)
  replace d1 := d1.mv m6 (by simp) (by simp)
  replace r3 := r3.mv m6 (by simp)
  replace r5 := r5.mv m6 (by simp)
  refine hashWrite (by decide) (by decide) (by decide) d1 (by decide) s6 [[97], [98, 99]] (RowsC.two o6.rd r3 (by omega) r5 (by omega)) (by simp [isByte]) (by decide) (by decide) (fun _ q7 m7 d7 => ⟨_, rfl, ?_⟩) (fun h => absurd (by decide) h)
  replace m := m.step m7 (by simp)
  refine newSl_C q7 3 rfl fun s8 q8 m8 o8 n8 c8 => ?_
  replace m := m.step m8 (by simp)
  replace d7 := d7.mv m8 (by simp) (by simp)
  refine conv_C (P := Try.prog) (t := T.sl_uint8) (e := T.uint8) (by kernel_rfl) (by kernel_rfl) o8 (by simp) fun q9 m9 k9 => ?_
  replace m := m.step m9 (by simp)
  replace d7 := d7.mv m9 (by simp) (by simp)
  have r9 := k9 _ _ _ _ o8.rd
  refine newSl_C q9 3 rfl fun s10 q10 m10 o10 n10 c10 => ?_
  replace m := m.step m10 (by simp)
  replace d7 := d7.mv m10 (by simp) (by simp)
  replace r9 := r9.mv m10 (by simp)
  refine digestOf_spec q10 s10 [[97, 98, 99]] (RowsC.one o10.rd r9 (by omega)) (by simp [isByte]) (by decide) (by decide) fun q11 m11 => ⟨_, rfl, ?_⟩
  replace m := m.step m11 (by simp)
  replace d7 := d7.mv m11 (by simp) (by simp)
  try dsimp only
  refine abc_spec q11 fun q12 m12 => ⟨_, rfl, ?_⟩
  replace m := m.step m12 (by simp)
  replace d7 := d7.mv m12 (by simp) (by simp)
  try dsimp only
  refine sha_eq rfl ?_
  simp only [derefK_some, fldK_some, Nat.zero_add, Nat.add_zero, Nat.reduceAdd, inj_int, inj_bool, inj_str, inj_ptr, inj_map, inj_slice, exists_eq_left, List.getElem?_toArray, List.getElem?_cons_zero, List.getElem?_cons_succ, Option.isNone_some, Option.isNone_none, Bool.not_true, Bool.not_false, Bool.false_eq_true, if_true, if_false, reduceIte, eq_self, not_true_eq_false, not_false_eq_true, bne_self_eq_false, beq_self_eq_true, decide_true, decide_false, decide_eq_true_eq, beq_iff_eq, bne_iff_ne, ne_eq, beq_self_eq_true]
  refine hashTag d7 (by decide) fun q13 m13 => ⟨_, rfl, ?_⟩
  replace m := m.step m13 (by simp)
  replace d7 := d7.mv m13 (by simp) (by simp)
  try dsimp only
  refine abc_spec q13 fun q14 m14 => ⟨_, rfl, ?_⟩
  replace m := m.step m14 (by simp)
  replace d7 := d7.mv m14 (by simp) (by simp)
  try dsimp only
  refine sha_eq rfl ?_
  simp only [derefK_some, fldK_some, Nat.zero_add, Nat.add_zero, Nat.reduceAdd, inj_int, inj_bool, inj_str, inj_ptr, inj_map, inj_slice, exists_eq_left, List.getElem?_toArray, List.getElem?_cons_zero, List.getElem?_cons_succ, Option.isNone_some, Option.isNone_none, Bool.not_true, Bool.not_false, Bool.false_eq_true, if_true, if_false, reduceIte, eq_self, not_true_eq_false, not_false_eq_true, bne_self_eq_false, beq_self_eq_true, decide_true, decide_false, decide_eq_true_eq, beq_iff_eq, bne_iff_ne, ne_eq, beq_self_eq_true]
  refine hashLen d7 ⟨_, rfl, ?_⟩
  exact H (g.via q14 fun _ => 0) (m.via (by simp) _)

end Go.Proofs.Ytkpcoknfojnlbaa
