/-
  The document's numbers' tags; the example of layer 4.
-/
import Derived.Test.YtgdkaljbjhbeiaaKTags
import Derived.Test.YtgdkaljbjhbeiaaKRef02
import Derived.Test.YtgdkaljbjhbeiaaMem3
set_option linter.unusedSimpArgs false
set_option linter.unusedVariables false
namespace Go.Proofs.Ytgdkaljbjhbeiaa
open Go Go.Ev

theorem refEight_spec (g : GH) (c : Nat) (n : Int) {R : Value → Heap → Prop} (H : ∀ (s : Sl) (g' : GH), Mv [] g g' → OwnC T.uint8 1 g' c s ((eightB n).map byV) → R (.slice s.a s.n s.c) g'.h) : HC Try.prog F.ref04_eight #[.int .i64 n] R g.h := by
  refine ref04_eight.calls ?_
  unfold ref04_eight.body
  refine loopW_rule (fun st h' => ∃ (i : Nat) (s : Sl) (q : GH), i ≤ 8 ∧ st = (s, 7 - (i : Int)) ∧ h' = q.h ∧ Mv [1] g.base q ∧ OwnC T.uint8 1 q 1 s (((eightB n).take i).map byV)) (fun st => (st.2 + 1).toNat)
    ⟨0, ⟨none, 0, 0⟩, g.base, by omega, rfl, rfl, Mv.refl _ _, OwnC.nil _ _ _ _⟩ ?_
  rintro X _ _ ⟨i, s, q, hi, rfl, rfl, m, o⟩ hX
  dsimp only
  by_cases hlt : i < 8
  · rw [if_pos (by simp; omega)]
    have hk : IntKind.i64.wrap (8 * (7 - (i : Int))) = IntKind.i64.wrap (56 - IntKind.i64.wrap (8 * (i : Int))) := by
      rw [wrapI64 (n := 8 * (i : Int)) (by omega) (by omega), wrapI64 (by omega) (by omega), wrapI64 (by omega) (by omega)]; omega
    refine ⟨by rw [wrapI64 (by omega) (by omega)]; omega, ?_⟩
    refine newSl_C q 2 rfl fun s1 q1 m1 o1 hn1 hc1 => ?_
    have h4 := o.len
    simp only [List.length_map, List.length_take, eightB_length] at h4
    refine append_C (e := T.uint8) (e2 := T.uint8) (sz := 1) (by_ := 1) (z := .int .u8 0) (by kernel_rfl) (by kernel_rfl) (by kernel_rfl) rfl (by omega) (o.mv m1 (by simp)) o1.rd.rd (by simp [Value.oneCell']) (by omega) fun s3 q3 m3 o3 hn3 _ => ?_
    rw [wrapI64 (n := 7 - (i : Int) - 1) (by omega) (by omega)]
    refine hX _ _ ⟨i + 1, s3, q3, by omega, by simp only [Prod.mk.injEq, true_and]; omega, rfl, (m.step m1 (by simp)).step m3 (by simp), ?_⟩ (by simp; omega)
    have hget := eightB_get n i hlt
    have hl : i < (eightB n).length := hlt
    rw [List.getElem?_eq_getElem hl, ← hk] at hget
    rw [List.take_succ_eq_append_getElem hl, List.map_append, Option.some.inj hget]
    exact o3
  · rw [if_neg (by simp; omega)]
    have hi' : i = 8 := by omega
    subst hi'
    exact H s (g.via q fun _ => c) (m.via (by simp) _) (o.via m (by simp) _)

/-- The first bytes of a tag, and noughts. -/
def fillTo (bs : List Int) (i : Nat) : List Int := bs.take i ++ List.replicate (32 - i) 0
theorem fillTo_length (bs : List Int) (i : Nat) (h : i ≤ bs.length) (h2 : bs.length ≤ 32) : (fillTo bs i).length = 32 := by simp [fillTo]; omega
theorem fillTo_set (bs : List Int) (i : Nat) (h : i < bs.length) (h2 : bs.length ≤ 32) : (tagA (fillTo bs i)).setIfInBounds i (byV bs[i]) = tagA (fillTo bs (i + 1)) := by
  unfold tagA fillTo
  rw [List.setIfInBounds_toArray, ← List.map_set]
  congr 2
  obtain ⟨k, hk⟩ : ∃ k, 32 - i = k + 1 := ⟨32 - i - 1, by omega⟩
  have hl : (bs.take i).length = i := by simp; omega
  rw [hk, List.replicate_succ, List.set_append_right _ _ (by omega), hl, Nat.sub_self, List.set_cons_zero, show 32 - (i + 1) = k from by omega, List.take_succ_eq_append_getElem h, List.append_assoc]
  rfl

set_option maxRecDepth 4000 in
theorem refNumber_spec (g : GH) (n : Int) {R : Value → Heap → Prop} (H : ∀ g' : GH, Mv [] g g' → R (.agg (tagA (numT n))) g'.h) : HC Try.prog F.ref04_Number #[.int .i64 n] R g.h := by
  refine ref04_Number.calls ?_
  unfold ref04_Number.body
  rw [zTag]
  have m := Mv.refl [1, 2, 3] g.base
  refine new_C g.base 1 fun t q1 m1 b1 => ?_
  replace m := m.step m1 (by simp)
  refine new_C q1 2 fun t2 q2 m2 b2 => ?_
  replace m := m.step m2 (by simp)
  replace b1 := b1.mv m2 (by simp)
  refine newSl_C q2 3 rfl fun s3 q3 m3 o3 hn3 hc3 => ?_
  replace m := m.step m3 (by simp)
  replace b1 := b1.mv m3 (by simp)
  replace b2 := b2.mv m3 (by simp)
  refine convRd (e := T.uint8) (by kernel_rfl) (by kernel_rfl) o3 (by simp) fun q4 m4 r4 k4 => ?_
  replace m := m.step m4 (by simp)
  replace b1 := b1.mv m4 (by simp)
  replace b2 := b2.mv m4 (by simp)
  refine refEight_spec q4 3 n fun s5 q5 m5 o5 => ⟨_, rfl, ?_⟩
  replace m := m.step m5 (by simp)
  replace b1 := b1.mv m5 (by simp)
  replace b2 := b2.mv m5 (by simp)
  have h5 := o5.len
  simp only [List.length_map, eightB_length] at h5
  refine appendNew_C (e := T.uint8) (e2 := T.uint8) (sz := 1) (by_ := 1) (z := .int .u8 0) (by kernel_rfl) (by kernel_rfl) (by kernel_rfl) rfl (by omega) 3 (r4.mv m5 (by simp)).rd o5.rd.rd (by omega) (by omega) fun s6 q6 m6 o6 hn6 => ?_
  replace m := m.step m6 (by simp)
  replace b1 := b1.mv m6 (by simp)
  replace b2 := b2.mv m6 (by simp)
  have e6 : ([.int .u8 122, .int .u8 117, .int .u8 103, .int .u8 122, .int .u8 119, .int .u8 97, .int .u8 110, .int .u8 103] : List Value) ++ (eightB n).map byV = (zugB ++ eightB n).map byV := rfl
  have h6 := o6.len
  rw [e6] at o6
  obtain ⟨bs, hbs⟩ : ∃ bs, bs = zugB ++ eightB n := ⟨_, rfl⟩
  have hl : bs.length = 16 := by rw [hbs]; rfl
  rw [← hbs] at o6
  have h7 := o6.len
  rw [List.length_map, hl] at h7
  refine loopW_rule (fun st h' => ∃ (i : Nat) (q : GH), i ≤ 16 ∧ st = (i : Int) ∧ h' = q.h ∧ Mv [1, 2, 3] g.base q ∧ BlkC q 1 t (Array.replicate 32 (.int .u8 0)) T.api_Tag ∧ BlkC q 2 t2 (tagA (fillTo bs i)) T.api_Tag ∧ RdC 1 q 3 s6 (bs.map byV)) (fun st => 16 - st.toNat)
    ⟨0, q6, by omega, rfl, rfl, m, b1, b2, o6.rd⟩ ?_
  clear m b1 b2
  rintro X _ _ ⟨i, q, hi, rfl, rfl, m, b1, b2, r⟩ hX
  try dsimp only
  by_cases hlt : i < 16
  · rw [if_pos (by simp [h7]; omega)]
    refine idxLoad_C r zU8 (by omega) bs[i] (by simp [Kd.inj, List.getElem?_eq_getElem, hl, hlt]) ?_
    refine idxArr_N zU8 (by omega) ?_
    rw [Nat.zero_add]
    refine store_C b2 (by simp [fillTo_length bs i (by omega) (by omega)]; omega) rfl fun q7 m7 b7 => ?_
    rw [fillTo_set bs i (by omega) (by omega)] at b7
    rw [wrapSucc (by omega)]
    exact hX _ _ ⟨i + 1, q7, by omega, rfl, rfl, m.step m7 (by simp), b1.mv m7 (by simp), b7, r.mv m7 (by simp)⟩ (by simp; omega)
  · rw [if_neg (by simp [h7]; omega)]
    have hi' : i = 16 := by omega
    subst hi'
    have e : fillTo bs 16 = numT n := by rw [hbs]; rfl
    rw [e] at b2
    refine loadAgg_whole b2 (tagA_size (numT_length n)) ?_
    refine result_C (n := 32) szTag dTag b1 (by simp) (by simp [numT_length]) (fun v hv => oneBy _ v hv) fun q8 m8 => ?_
    exact H (g.via q8 fun _ => 0) ((m.step m8 (by simp)).via (by simp) _)

end Go.Proofs.Ytgdkaljbjhbeiaa
