/-
  The document's own digest: contracts of its functions.
-/
import Derived.Test.YtafjmdeldejonaaGreatKDigest
set_option linter.unusedSimpArgs false
set_option linter.unusedVariables false
namespace Go.Proofs.YtafjmdeldejonaaGreat
open Go Go.Ev

/-- A byte of a number that is shifted down. -/
theorem shrByte (n k : Nat) (h : k ≤ 56) : IntKind.u8.wrap (Int.fdiv (n : Int) (2 ^ min (Int.toNat (k : Int)) (IntKind.bits .i64))) = ((n / 2 ^ k % 256 : Nat) : Int) := by
  have hm : min (Int.toNat (k : Int)) (IntKind.bits .i64) = k := by rw [Int.toNat_natCast]; show min k 64 = k; omega
  have hp : ((2 : Int) ^ k) = ((2 ^ k : Nat) : Int) := by rw [Int.natCast_pow]; rfl
  rw [hm, hp, Int.fdiv_eq_ediv_of_nonneg _ (Int.natCast_nonneg _), wrapU8_mod, ← Int.natCast_ediv]
  generalize n / 2 ^ k = q
  omega

theorem filled_spec (g : GH) (c : Nat) {d : Nat} (v : Sl) (bs : List Int) (hr : RdC 1 g d v (bs.map byV)) (hl : bs.length ≤ 100000000) {R : Value → Heap → Prop}
    (H : ∀ (s : Sl) (g' : GH), Mv [] g g' → OwnC T.uint8 1 g' c s ((bs ++ padOf bs.length).map byV) → R (.slice s.a s.n s.c) g'.h) : HC Tryz.prog F.ref02_filled #[.slice v.a v.n v.c] R g.h := by
  refine ref02_filled.calls (b0 := v) ?_
  unfold ref02_filled.body
  have hn := hr.len
  simp only [List.length_map] at hn
  have m := Mv.refl [1] g.base
  refine newSl_C g.base 1 rfl fun s0 q0 m0 o0 n0 _ => ?_
  replace m := m.step m0 (by simp)
  refine append_C (e := T.uint8) (e2 := T.uint8) (sz := 1) (by_ := 1) (z := .int .u8 0) (by kernel_rfl) (by kernel_rfl) (by kernel_rfl) rfl (by omega) o0 (hr.arg m (by simp)).rd (oneBy _) (by omega) fun s1 q1 m1 o1 n1 _ => ?_
  replace m := m.step m1 (by simp)
  refine newSl_C q1 2 rfl fun s2 q2 m2 o2 n2 _ => ?_
  replace m := m.step m2 (by simp)
  refine append_C (e := T.uint8) (e2 := T.uint8) (sz := 1) (by_ := 1) (z := .int .u8 0) (by kernel_rfl) (by kernel_rfl) (by kernel_rfl) rfl (by omega) (o1.mv m2 (by simp)) o2.rd.rd (by simp [Value.oneCell']) (by omega) fun s3 q3 m3 o3 n3 _ => ?_
  replace m := m.step m3 (by simp)
  have o3' : OwnC T.uint8 1 q3 1 s3 ((bs ++ 128 :: List.replicate 0 0).map byV) := by simpa using o3
  refine loopW_ruleM (fun k st h' => ∃ (z : Nat) (q : GH), h' = q.h ∧ Mv [1] g.base q ∧ OwnC T.uint8 1 q 1 st ((bs ++ 128 :: List.replicate z 0).map byV) ∧ z + k = (119 - bs.length % 64) % 64) ((119 - bs.length % 64) % 64) ⟨0, q3, rfl, m, o3', by omega⟩ ?_
  clear m o3 o3'
  rintro X k st _ ⟨z, q, rfl, m, o, hz⟩ hX
  have hsn := o.len
  simp at hsn
  refine ⟨by decide, ?_⟩
  have h1 : Int.tmod (st.n : Int) 64 = ((st.n % 64 : Nat) : Int) := by rw [Int.tmod_eq_emod_of_nonneg (by omega)]; omega
  rw [h1]
  try simp only [derefK_some, fldK_some, Nat.zero_add, Nat.add_zero, Nat.reduceAdd, inj_int, inj_bool, inj_str, inj_ptr, inj_map, inj_slice, exists_eq_left, List.getElem?_toArray, List.getElem?_cons_zero, List.getElem?_cons_succ, Option.isNone_some, Option.isNone_none, Bool.not_true, Bool.not_false, Bool.false_eq_true, if_true, if_false, reduceIte, eq_self, not_true_eq_false, not_false_eq_true, bne_self_eq_false, beq_self_eq_true, decide_true, decide_false, decide_eq_true_eq, beq_iff_eq, bne_iff_ne, ne_eq]
  by_cases h56 : st.n % 64 = 56
  · rw [if_neg (by omega)]
    have hz2 : z = (119 - bs.length % 64) % 64 := by omega
    clear hX
    have hpad : padOf bs.length = 128 :: List.replicate z 0 ++ len8 (8 * bs.length) := by unfold padOf; rw [← hz2]; rfl
    refine loopW_rule (fun st h' => ∃ (j : Nat) (s : Sl) (q : GH), j ≤ 8 ∧ st = (s, 7 - (j : Int)) ∧ h' = q.h ∧ Mv [1] g.base q ∧ OwnC T.uint8 1 q 1 s ((bs ++ (128 :: List.replicate z 0 ++ (len8 (8 * bs.length)).take j)).map byV)) (fun st => (st.2 + 1).toNat)
      ⟨0, st, q, by omega, rfl, rfl, m, by simpa using o⟩ ?_
    clear m o
    rintro Y _ _ ⟨j, s, q, hj, rfl, rfl, m, o⟩ hY
    have hsn2 := o.len
    have h8 : (len8 (8 * bs.length)).length = 8 := by simp [len8]
    simp [h8] at hsn2
    try simp only [derefK_some, fldK_some, Nat.zero_add, Nat.add_zero, Nat.reduceAdd, inj_int, inj_bool, inj_str, inj_ptr, inj_map, inj_slice, exists_eq_left, List.getElem?_toArray, List.getElem?_cons_zero, List.getElem?_cons_succ, Option.isNone_some, Option.isNone_none, Bool.not_true, Bool.not_false, Bool.false_eq_true, if_true, if_false, reduceIte, eq_self, not_true_eq_false, not_false_eq_true, bne_self_eq_false, beq_self_eq_true, decide_true, decide_false, decide_eq_true_eq, beq_iff_eq, bne_iff_ne, ne_eq]
    by_cases hlt : j < 8
    · rw [if_pos (by omega)]
      rw [wrapI64 (n := 8 * (7 - (j : Int))) (by omega) (by omega), wrapI64 (n := 8 * (v.n : Int)) (by omega) (by omega)]
      refine ⟨by omega, ?_⟩
      have e1 : (8 * (7 - (j : Int))) = ((8 * (7 - j) : Nat) : Int) := by omega
      have e2 : 8 * (v.n : Int) = ((8 * bs.length : Nat) : Int) := by omega
      rw [e1, e2, shrByte _ _ (by omega)]
      refine newSl_C q 2 rfl fun s5 q5 m5 o5 n5 _ => ?_
      replace m := m.step m5 (by simp)
      refine append_C (e := T.uint8) (e2 := T.uint8) (sz := 1) (by_ := 1) (z := .int .u8 0) (by kernel_rfl) (by kernel_rfl) (by kernel_rfl) rfl (by omega) (o.mv m5 (by simp)) o5.rd.rd (by simp [Value.oneCell']) (by omega) fun s6 q6 m6 o6 n6 _ => ?_
      replace m := m.step m6 (by simp)
      rw [wrapI64 (by omega) (by omega)]
      refine hY _ _ ⟨j + 1, s6, q6, by omega, by simp; omega, rfl, m, ?_⟩ (by simp; omega)
      have hg : (len8 (8 * bs.length))[j]'(by omega) = ((8 * bs.length / 2 ^ (8 * (7 - j)) % 256 : Nat) : Int) := by
        simp only [len8, List.getElem_map, List.getElem_range]
        rw [Nat.pow_mul]
      rw [List.take_succ_eq_append_getElem (by omega), hg]
      simpa using o6
    · rw [if_neg (by omega)]
      have hj8 : j = 8 := by omega
      subst hj8
      rw [List.take_of_length_le (by omega), ← hpad] at o
      exact H s (g.via q fun _ => c) (m.via (by simp) _) (o.via m (by simp) _)
  · rw [if_pos (by omega)]
    have hk : 0 < k := by omega
    refine newSl_C q 2 rfl fun s5 q5 m5 o5 n5 _ => ?_
    replace m := m.step m5 (by simp)
    refine append_C (e := T.uint8) (e2 := T.uint8) (sz := 1) (by_ := 1) (z := .int .u8 0) (by kernel_rfl) (by kernel_rfl) (by kernel_rfl) rfl (by omega) (o.mv m5 (by simp)) o5.rd.rd (by simp [Value.oneCell']) (by omega) fun s6 q6 m6 o6 n6 _ => ?_
    replace m := m.step m6 (by simp)
    refine hX (k - 1) s6 _ ⟨z + 1, q6, rfl, m, ?_, by omega⟩ (by omega)
    rw [List.replicate_succ']
    simpa using o6

theorem small_spec (g : GH) (x : BitVec 32) (i j k : Int) (hi : -1000 ≤ i ∧ i ≤ 1000) (hj : -1000 ≤ j ∧ j ≤ 1000) (hk : k ≤ 1000) {R : Value → Heap → Prop} (H : ∀ g' : GH, Mv [] g g' → R (wv (smallB x i j k)) g'.h) :
    HC Tryz.prog F.ref02_small #[wv x, .int .i64 i, .int .i64 j, .int .i64 k] R g.h := by
  refine ref02_small.calls ?_
  unfold ref02_small.body
  refine newSl_C g 0 rfl fun s g1 m1 o1 _ _ => ?_
  refine refMix_spec x s [i, j] o1.rd.rd (by simp) (by intro n hn; simp at hn; rcases hn with rfl | rfl <;> omega) ⟨_, rfl, ?_⟩
  refine refShift_spec x k (by omega) ⟨_, rfl, ?_⟩
  try dsimp only
  rw [xorV (mixB x [i, j]) (shiftB x k)]
  exact H g1 m1

theorem getD_get {ws : List (BitVec 32)} {i : Nat} (h : i < ws.length) : (ws.map wv)[i]? = some (Kd.inj (.int .u32) ((ws.getD i 0).toNat : Int)) := by
  rw [List.getElem?_map, List.getElem?_eq_getElem h, List.getD, List.getElem?_eq_getElem h]; rfl

set_option maxHeartbeats 1000000 in
theorem schedule_spec (g : GH) (c : Nat) {d : Nat} (b : Sl) (bs : List Int) (hr : RdC 1 g d b (bs.map byV)) (h64 : bs.length = 64) (hby : ∀ x ∈ bs, isByte x) {R : Value → Heap → Prop}
    (H : ∀ (s : Sl) (g' : GH), Mv [] g g' → OwnC T.uint32 1 g' c s ((schedTo (wordsOf bs) 48).map wv) → R (.slice s.a s.n s.c) g'.h) : HC Tryz.prog F.ref02_schedule #[.slice b.a b.n b.c] R g.h := by
  refine ref02_schedule.calls (block0 := b) ?_
  unfold ref02_schedule.body
  have m := Mv.refl [1] g.base
  refine refWords_spec b bs hr.rd hby (by omega) fun ws h2 er hw x2 hfr => ⟨(ws, er), rfl, ?_⟩
  rw [if_pos (by omega)] at hw
  obtain ⟨rfl, hw⟩ := hw
  have ow : OwnC T.uint32 1 (g.base.to h2 1) 1 ws ((schedTo (wordsOf bs) 0).map wv) := ⟨hw, fun b hb => g.base.to_new _ _ _ (hfr b hb)⟩
  replace m := m.step (GH.to_ext (g := g.base) 1 x2) (by simp)
  have hwl := wordsOf64 bs h64
  try dsimp only
  refine loopW_rule (fun st h' => ∃ (n : Nat) (s : Sl) (q : GH), n ≤ 48 ∧ st = (s, ((16 + n : Nat) : Int)) ∧ h' = q.h ∧ Mv [1] g.base q ∧ OwnC T.uint32 1 q 1 s ((schedTo (wordsOf bs) n).map wv)) (fun st => 64 - st.2.toNat)
    ⟨0, ws, g.base.to h2 1, by omega, rfl, rfl, m, ow⟩ ?_
  clear m ow hw
  rintro X _ _ ⟨n, s, q, hn, rfl, rfl, m, o⟩ hX
  have hsl := schedTo_length (wordsOf bs) n
  rw [hwl] at hsl
  try simp only [derefK_some, fldK_some, Nat.zero_add, Nat.add_zero, Nat.reduceAdd, inj_int, inj_bool, inj_str, inj_ptr, inj_map, inj_slice, exists_eq_left, List.getElem?_toArray, List.getElem?_cons_zero, List.getElem?_cons_succ, Option.isNone_some, Option.isNone_none, Bool.not_true, Bool.not_false, Bool.false_eq_true, if_true, if_false, reduceIte, eq_self, not_true_eq_false, not_false_eq_true, bne_self_eq_false, beq_self_eq_true, decide_true, decide_false, decide_eq_true_eq, beq_iff_eq, bne_iff_ne, ne_eq]
  by_cases hlt : n < 48
  · rw [if_pos (by omega)]
    rw [wrapI64 (n := ((16 + n : Nat) : Int) - 15) (by omega) (by omega), wrapI64 (n := ((16 + n : Nat) : Int) - 2) (by omega) (by omega), wrapI64 (n := ((16 + n : Nat) : Int) - 16) (by omega) (by omega), wrapI64 (n := ((16 + n : Nat) : Int) - 7) (by omega) (by omega)]
    rw [show ((16 + n : Nat) : Int) - 15 = ((16 + n - 15 : Nat) : Int) from by omega, show ((16 + n : Nat) : Int) - 2 = ((16 + n - 2 : Nat) : Int) from by omega, show ((16 + n : Nat) : Int) - 16 = ((16 + n - 16 : Nat) : Int) from by omega, show ((16 + n : Nat) : Int) - 7 = ((16 + n - 7 : Nat) : Int) from by omega]
    generalize hsw : schedTo (wordsOf bs) n = sw at o hsl
    have hne : sw.map wv ≠ [] := fun e => by have := congrArg List.length e; simp at this; subst this; simp at hsl; omega
    have hml : (sw.map wv).length = 16 + n := by simp [hsl]
    obtain ⟨pb, po, rc, at_⟩ := o.rd.at_ hne zU32
    refine at_ _ _ (by omega) (by omega) ?_
    refine at_ _ _ (by omega) (by omega) ?_
    refine at_ _ _ (by omega) (by omega) ?_
    refine at_ _ _ (by omega) (by omega) ?_
    simp only [Int.toNat_natCast]
    refine loadK_cells rc (j := 16 + n - 16) _ rfl (getD_get (by omega)) ?_
    refine loadK_cells rc (j := 16 + n - 15) _ rfl (getD_get (by omega)) ?_
    refine loadK_cells rc (j := 16 + n - 7) _ rfl (getD_get (by omega)) ?_
    refine loadK_cells rc (j := 16 + n - 2) _ rfl (getD_get (by omega)) ?_
    refine small_spec q (sw.getD (16 + n - 15) 0) 7 18 3 (by omega) (by omega) (by omega) fun q1 m1 => ⟨_, rfl, ?_⟩
    have rc1 := rc.mv m1 (by simp)
    replace m := m.step m1 (by simp)
    refine ⟨stillK_cells rc1 (j := 16 + n - 2) rfl (getD_get (by omega)), stillK_cells rc1 (j := 16 + n - 7) rfl (getD_get (by omega)), stillK_cells rc1 (j := 16 + n - 16) rfl (getD_get (by omega)), ?_⟩
    refine small_spec q1 (sw.getD (16 + n - 2) 0) 17 19 10 (by omega) (by omega) (by omega) fun q2 m2 => ⟨_, rfl, ?_⟩
    have rc2 := rc1.mv m2 (by simp)
    replace m := m.step m2 (by simp)
    refine ⟨stillK_cells rc2 (j := 16 + n - 7) rfl (getD_get (by omega)), stillK_cells rc2 (j := 16 + n - 16) rfl (getD_get (by omega)), ?_⟩
    try dsimp only
    refine newSl_C q2 2 rfl fun s3 q3 m3 o3 _ _ => ?_
    replace m := m.step m3 (by simp)
    refine refSum_spec s3 [sw.getD (16 + n - 16) 0, smallB (sw.getD (16 + n - 15) 0) 7 18 3, sw.getD (16 + n - 7) 0, smallB (sw.getD (16 + n - 2) 0) 17 19 10] o3.rd.rd (by simp) ⟨_, rfl, ?_⟩
    try dsimp only
    refine newSl_C q3 2 rfl fun s4 q4 m4 o4 n4 _ => ?_
    replace m := m.step m4 (by simp)
    have hos := o.len
    rw [hml] at hos
    refine append_C (e := T.uint32) (e2 := T.uint32) (sz := 1) (by_ := 4) (z := .int .u32 0) (by kernel_rfl) (by kernel_rfl) (by kernel_rfl) rfl (by omega) ((((o.mv m1 (by simp)).mv m2 (by simp)).mv m3 (by simp)).mv m4 (by simp)) o4.rd.rd (by simp [Value.oneCell']) (by omega) fun s5 q5 m5 o5 _ _ => ?_
    replace m := m.step m5 (by simp)
    rw [wrapSucc (by omega)]
    refine hX _ _ ⟨n + 1, s5, q5, by omega, by simp; omega, rfl, m, ?_⟩ (by simp; omega)
    rw [schedTo, hsw, hwl, List.map_append]
    exact o5
  · rw [if_neg (by omega)]
    have hn' : n = 48 := by omega
    subst hn'
    exact H s (g.via q fun _ => c) (m.via (by simp) _) (o.via m (by simp) _)

theorem consts_spec (g : GH) (c : Nat) {R : Value → Heap → Prop} (H : ∀ (s : Sl) (g' : GH), Mv [] g g' → OwnC T.uint32 1 g' c s (constK.map wv) → R (.slice s.a s.n s.c) g'.h) : HC Tryz.prog F.ref02_constants #[] R g.h := by
  refine ref02_constants.calls ?_
  unfold ref02_constants.body
  refine newSl_C g c rfl fun s g1 m1 o1 _ _ => ?_
  exact H s g1 m1 (o1.cast (by kernel_rfl))
theorem begin_spec (g : GH) (c : Nat) {R : Value → Heap → Prop} (H : ∀ (s : Sl) (g' : GH), Mv [] g g' → OwnC T.uint32 1 g' c s (initS.list.map wv) → R (.slice s.a s.n s.c) g'.h) : HC Tryz.prog F.ref02_begin #[] R g.h := by
  refine ref02_begin.calls ?_
  unfold ref02_begin.body
  refine newSl_C g c rfl fun s g1 m1 o1 _ _ => ?_
  exact H s g1 m1 o1

theorem compN_succ (v : S8) (bs : List Int) (n : Nat) : compN v bs (n + 1) = compS (compN v bs n) ((bs.drop (64 * n)).take 64) := by
  rw [compN_add v bs 1 n]; rfl

set_option maxHeartbeats 4000000 in
theorem refOf_spec (g : GH) {d : Nat} (b : Sl) (bs : List Int) (hr : RdC 1 g d b (bs.map byV)) (hl : bs.length ≤ 80000000) (hby : ∀ x ∈ bs, isByte x) {R : Value → Heap → Prop} (H : ∀ g' : GH, Mv [] g g' → R (.agg (tagA (shaB bs))) g'.h) :
    HC Tryz.prog F.ref02_Of #[.slice b.a b.n b.c] R g.h := by
  refine ref02_Of.calls (b0 := b) ?_
  unfold ref02_Of.body
  have m := Mv.refl [7, 3, 8] g.base
  rw [zTag]
  refine new_C g.base 7 fun tp q1 m1 b1 => ?_
  replace m := m.step m1 (by simp)
  refine filled_spec q1 1 b bs (hr.arg m (by simp)) (by omega) fun al q2 m2 oal => ⟨_, rfl, ?_⟩
  replace m := m.step m2 (by simp)
  replace b1 := b1.mv m2 (by simp)
  refine consts_spec q2 2 fun ks q3 m3 oks => ⟨_, rfl, ?_⟩
  replace m := m.step m3 (by simp)
  replace b1 := b1.mv m3 (by simp)
  replace oal := oal.mv m3 (by simp)
  refine begin_spec q3 3 fun vs q4 m4 ovs => ⟨_, rfl, ?_⟩
  replace m := m.step m4 (by simp)
  replace b1 := b1.mv m4 (by simp)
  replace oal := oal.mv m4 (by simp)
  replace oks := oks.mv m4 (by simp)
  clear m1 m2 m3 m4
  have hpb : ∀ x ∈ bs ++ padOf bs.length, isByte x := by
    intro x hx
    rcases List.mem_append.1 hx with hx | hx
    · exact hby x hx
    · unfold padOf at hx
      rw [len8_eq] at hx
      simp only [List.mem_cons, List.mem_append, List.mem_replicate] at hx
      rcases hx with rfl | ⟨_, rfl⟩ | hx | hx
      · unfold isByte; omega
      · unfold isByte; omega
      · exact be4_byte _ x hx
      · exact be4_byte _ x hx
  have hal64 : (bs ++ padOf bs.length).length % 64 = 0 := by rw [List.length_append]; exact padOf_length _
  have hall : (bs ++ padOf bs.length).length ≤ 80000200 := by rw [List.length_append]; unfold padOf len8; simp; omega
  have hsha : shaB bs = (compN initS (bs ++ padOf bs.length) ((bs ++ padOf bs.length).length / 64)).list.flatMap be4 := rfl
  generalize bs ++ padOf bs.length = A at oal hpb hal64 hall hsha
  have hn := oal.len
  have hc := oal.cap
  simp only [List.length_map] at hn
  try dsimp only
  refine loopW_rule (fun st h' => ∃ (j : Nat) (q : GH), 64 * j ≤ A.length ∧ st = ((64 * j : Nat) : Int) ∧ h' = q.h ∧ Mv [7, 3, 8] g.base q ∧ BlkC q 7 tp (Array.replicate 32 (.int .u8 0)) T.api_Tag ∧ OwnC T.uint8 1 q 1 al (A.map byV) ∧ OwnC T.uint32 1 q 2 ks (constK.map wv) ∧ OwnC T.uint32 1 q 3 vs ((compN initS A j).list.map wv)) (fun st => A.length - st.toNat)
    ⟨0, q4, by omega, rfl, rfl, m, b1, oal, oks, ovs⟩ ?_
  clear m b1 oal oks ovs
  rintro X _ _ ⟨j, q, hj, rfl, rfl, m, b1, oal, oks, ovs⟩ hX
  try simp only [derefK_some, fldK_some, Nat.zero_add, Nat.add_zero, Nat.reduceAdd, inj_int, inj_bool, inj_str, inj_ptr, inj_map, inj_slice, exists_eq_left, List.getElem?_toArray, List.getElem?_cons_zero, List.getElem?_cons_succ, Option.isNone_some, Option.isNone_none, Bool.not_true, Bool.not_false, Bool.false_eq_true, if_true, if_false, reduceIte, eq_self, not_true_eq_false, not_false_eq_true, bne_self_eq_false, beq_self_eq_true, decide_true, decide_false, decide_eq_true_eq, beq_iff_eq, bne_iff_ne, ne_eq]
  by_cases hlt : 64 * j < A.length
  · rw [if_pos (by omega), wrapI64 (n := ((64 * j : Nat) : Int) + 64) (by omega) (by omega)]
    refine slice_mid (l := 64 * j) (h := 64 * j + 64) rfl (by omega) (by omega) (by omega) ?_
    have rb := oal.rd.mid (l := 64 * j) (h := 64 * j + 64) zU8 (by omega) (by simp; omega) hc
    rw [show 64 * j + 64 - 64 * j = 64 from by omega] at rb ⊢
    rw [← List.map_drop, ← List.map_take] at rb
    generalize hV : compN initS A j = V at ovs
    have hbl : ((A.drop (64 * j)).take 64).length = 64 := by rw [List.length_take, List.length_drop]; omega
    have hbb : ∀ x ∈ (A.drop (64 * j)).take 64, isByte x := fun x hx => hpb x (List.mem_of_mem_drop (List.mem_of_mem_take hx))
    have hcs : compN initS A (j + 1) = compS V ((A.drop (64 * j)).take 64) := by rw [compN_succ, hV]
    generalize (A.drop (64 * j)).take 64 = blk at rb hbl hbb hcs
    refine schedule_spec q 4 _ blk rb hbl hbb fun ws q1 m1 ows => ⟨_, rfl, ?_⟩
    replace m := m.step m1 (by simp)
    replace b1 := b1.mv m1 (by simp)
    replace oal := oal.mv m1 (by simp)
    replace oks := oks.mv m1 (by simp)
    replace ovs := ovs.mv m1 (by simp)
    have hcs2 : compS V blk = V.add (roundsS (schedTo (wordsOf blk) 48) V 64) := rfl
    have hwsl : (schedTo (wordsOf blk) 48).length = 64 := by rw [schedTo_length, wordsOf64 blk hbl]
    generalize schedTo (wordsOf blk) 48 = W at ows hcs2 hwsl
    try dsimp only
    refine newSl_C q1 8 rfl fun s5 q5 m5 o5 n5 _ => ?_
    replace m := m.step m5 (by simp)
    replace b1 := b1.mv m5 (by simp)
    replace oal := oal.mv m5 (by simp)
    replace oks := oks.mv m5 (by simp)
    replace ovs := ovs.mv m5 (by simp)
    replace ows := ows.mv m5 (by simp)
    have hvn := ovs.len
    have hl8 : ∀ a : S8, a.list.length = 8 := fun _ => rfl
    rw [List.length_map, hl8] at hvn
    refine append_C (e := T.uint32) (e2 := T.uint32) (sz := 1) (by_ := 4) (z := .int .u32 0) (by kernel_rfl) (by kernel_rfl) (by kernel_rfl) rfl (by omega) o5 ovs.rd.rd (oneW _) (by omega) fun s6 q6 m6 o6 n6 _ => ?_
    replace m := m.step m6 (by simp)
    replace b1 := b1.mv m6 (by simp)
    replace oal := oal.mv m6 (by simp)
    replace oks := oks.mv m6 (by simp)
    replace ovs := ovs.mv m6 (by simp)
    replace ows := ows.mv m6 (by simp)
    have hck : constK.length = 64 := rfl
    refine loopW_rule (fun st h' => ∃ (t : Nat) (s : Sl) (q : GH), t ≤ 64 ∧ st = (s, (t : Int)) ∧ h' = q.h ∧ Mv [7, 3, 8] g.base q ∧ BlkC q 7 tp (Array.replicate 32 (.int .u8 0)) T.api_Tag ∧ OwnC T.uint8 1 q 1 al (A.map byV) ∧ OwnC T.uint32 1 q 2 ks (constK.map wv) ∧ OwnC T.uint32 1 q 3 vs (V.list.map wv) ∧ OwnC T.uint32 1 q 4 ws (W.map wv) ∧ OwnC T.uint32 1 q 8 s ((roundsS W V t).list.map wv)) (fun st => 64 - st.2.toNat)
      ⟨0, s6, q6, by omega, rfl, rfl, m, b1, oal, oks, ovs, ows, o6⟩ ?_
    clear m b1 oal oks ovs ows o6 o5 rb
    rintro Y _ _ ⟨t, s, q, ht, rfl, rfl, m, b1, oal, oks, ovs, ows, os⟩ hY
    try simp only [derefK_some, fldK_some, Nat.zero_add, Nat.add_zero, Nat.reduceAdd, inj_int, inj_bool, inj_str, inj_ptr, inj_map, inj_slice, exists_eq_left, List.getElem?_toArray, List.getElem?_cons_zero, List.getElem?_cons_succ, Option.isNone_some, Option.isNone_none, Bool.not_true, Bool.not_false, Bool.false_eq_true, if_true, if_false, reduceIte, eq_self, not_true_eq_false, not_false_eq_true, bne_self_eq_false, beq_self_eq_true, decide_true, decide_false, decide_eq_true_eq, beq_iff_eq, bne_iff_ne, ne_eq]
    by_cases hlt2 : t < 64
    · rw [if_pos (by omega)]
      have hrs := roundsS_succ W V t (by omega) (by omega)
      generalize roundsS W V t = S at os hrs
      obtain ⟨sb, so, rs, ats⟩ := os.rd.at_ (by simp [S8.list]) zU32
      obtain ⟨kb, ko, rk, atk⟩ := oks.rd.at_ (by simp [constK]) zU32
      obtain ⟨wb, wo, rw_, atw⟩ := ows.rd.at_ (fun e => by have := congrArg List.length e; simp [hwsl] at this) zU32
      have hs8 : (S.list.map wv).length = 8 := by simp [hl8]
      have hk64 : (constK.map wv).length = 64 := by simp [hck]
      have hw64 : (W.map wv).length = 64 := by simp [hwsl]
      have gk : (constK.map wv)[t]? = some (Kd.inj (.int .u32) ((constK[t]'(by omega)).toNat : Int)) := by rw [List.getElem?_map, List.getElem?_eq_getElem (by omega)]; rfl
      have gw : (W.map wv)[t]? = some (Kd.inj (.int .u32) ((W[t]'(by omega)).toNat : Int)) := by rw [List.getElem?_map, List.getElem?_eq_getElem (by omega)]; rfl
      refine ats 7 _ (by decide) (by rw [hs8]; decide) (ats 4 _ (by decide) (by rw [hs8]; decide) (ats 4 _ (by decide) (by rw [hs8]; decide) (ats 5 _ (by decide) (by rw [hs8]; decide) (ats 6 _ (by decide) (by rw [hs8]; decide) ?_))))
      refine atk (t : Int) _ (by omega) (by omega) (atw (t : Int) _ (by omega) (by omega) ?_)
      simp only [Int.toNat_natCast]
      refine loadK_cells rs (j := 7) (k := .int .u32) _ rfl rfl (loadK_cells rs (j := 4) (k := .int .u32) _ rfl rfl (loadK_cells rs (j := 4) (k := .int .u32) _ rfl rfl (loadK_cells rs (j := 5) (k := .int .u32) _ rfl rfl (loadK_cells rs (j := 6) (k := .int .u32) _ rfl rfl ?_))))
      refine loadK_cells rk (j := t) _ rfl gk (loadK_cells rw_ (j := t) _ rfl gw ?_)
      refine newSl_C q 9 rfl fun s1 q1 m1 o1 _ _ => ?_
      replace m := m.step m1 (by simp)
      replace rs := rs.mv m1 (by simp)
      replace rk := rk.mv m1 (by simp)
      replace rw_ := rw_.mv m1 (by simp)
      refine refMix_spec S.e s1 [6, 11, 25] o1.rd.rd (by simp) (by decide) ⟨_, rfl, ?_⟩
      refine ⟨stillK_cells rw_ (j := t) rfl gw, stillK_cells rk (j := t) rfl gk, stillK_cells rs (j := 6) (k := .int .u32) rfl rfl, stillK_cells rs (j := 5) (k := .int .u32) rfl rfl, stillK_cells rs (j := 4) (k := .int .u32) rfl rfl, stillK_cells rs (j := 7) (k := .int .u32) rfl rfl, ?_⟩
      refine refChoose_spec S.e S.f S.g ⟨_, rfl, ?_⟩
      refine ⟨stillK_cells rw_ (j := t) rfl gw, stillK_cells rk (j := t) rfl gk, stillK_cells rs (j := 7) (k := .int .u32) rfl rfl, ?_⟩
      try dsimp only
      refine newSl_C q1 9 rfl fun s2 q2 m2 o2 _ _ => ?_
      replace m := m.step m2 (by simp)
      replace rs := rs.mv m2 (by simp)
      refine refSum_spec s2 [S.i, mixB S.e [6, 11, 25], S.g ^^^ (S.e &&& (S.f ^^^ S.g)), constK[t]'(by omega), W[t]'(by omega)] o2.rd.rd (by simp) ⟨_, rfl, ?_⟩
      try dsimp only
      have os2 := (os.mv m1 (by simp)).mv m2 (by simp)
      have hsn := os2.len
      have hsc := os2.cap
      rw [hs8] at hsn
      refine ats 0 _ (by decide) (by rw [hs8]; decide) ?_
      refine slice_to os2.plain (n := 3) rfl (by omega) ?_
      refine loadK_cells rs (j := 0) (k := .int .u32) _ rfl rfl ?_
      refine newSl_C q2 9 rfl fun s3 q3 m3 o3 _ _ => ?_
      replace m := m.step m3 (by simp)
      replace rs := rs.mv m3 (by simp)
      refine refMix_spec S.a s3 [2, 13, 22] o3.rd.rd (by simp) (by decide) ⟨_, rfl, ?_⟩
      try dsimp only
      have r3 : Rd 1 q3.h ⟨s.a, 3, s.c⟩ ([S.a, S.b, S.c].map wv) := ((os2.mv m3 (by simp)).rd.rd.take (n := 3) (c := s.c) (by rw [hs8]; decide))
      refine refMost_spec ⟨s.a, 3, s.c⟩ [S.a, S.b, S.c] r3 (by simp) ⟨_, rfl, ?_⟩
      rw [majB_most]
      try dsimp only
      refine newSl_C q3 9 rfl fun s4 q4 m4 o4 _ _ => ?_
      replace m := m.step m4 (by simp)
      replace rs := rs.mv m4 (by simp)
      refine refSum_spec s4 [mixB S.a [2, 13, 22], majB S.a S.b S.c] o4.rd.rd (by simp) ⟨_, rfl, ?_⟩
      try dsimp only
      refine ats 0 _ (by decide) (by rw [hs8]; decide) (ats 1 _ (by decide) (by rw [hs8]; decide) (ats 2 _ (by decide) (by rw [hs8]; decide) (ats 3 _ (by decide) (by rw [hs8]; decide) (ats 4 _ (by decide) (by rw [hs8]; decide) (ats 5 _ (by decide) (by rw [hs8]; decide) (ats 6 _ (by decide) (by rw [hs8]; decide) ?_))))))
      refine loadK_cells rs (j := 0) (k := .int .u32) _ rfl rfl (loadK_cells rs (j := 1) (k := .int .u32) _ rfl rfl (loadK_cells rs (j := 2) (k := .int .u32) _ rfl rfl (loadK_cells rs (j := 3) (k := .int .u32) _ rfl rfl (loadK_cells rs (j := 4) (k := .int .u32) _ rfl rfl (loadK_cells rs (j := 5) (k := .int .u32) _ rfl rfl (loadK_cells rs (j := 6) (k := .int .u32) _ rfl rfl ?_))))))
      have e1 : IntKind.u32.wrap (((mS S (W[t]'(by omega)) (constK[t]'(by omega))).toNat : Int) + ((nS S).toNat : Int)) = ((mS S (W[t]'(by omega)) (constK[t]'(by omega)) + nS S).toNat : Int) := addBv _ _
      have e2 : IntKind.u32.wrap ((S.d.toNat : Int) + ((mS S (W[t]'(by omega)) (constK[t]'(by omega))).toNat : Int)) = ((S.d + mS S (W[t]'(by omega)) (constK[t]'(by omega))).toNat : Int) := addBv _ _
      unfold mS nS at e1
      unfold mS at e2
      rw [e1, e2, wrapSucc (by omega)]
      refine newSl_C q4 8 rfl fun s5 q5 m5 o5 _ _ => ?_
      replace m := m.step m5 (by simp)
      have mm : Mv [] q q5 := (((m1.step m2 (by simp)).step m3 (by simp)).step m4 (by simp)).step m5 (by simp)
      refine hY _ _ ⟨t + 1, s5, q5, by omega, rfl, rfl, m, b1.mv mm (by simp), oal.mv mm (by simp), oks.mv mm (by simp), ovs.mv mm (by simp), ows.mv mm (by simp), ?_⟩ (by simp; omega)
      rw [hrs]
      exact o5
    · rw [if_neg (by omega)]
      have ht' : t = 64 := by omega
      subst ht'
      clear hY
      generalize roundsS W V 64 = S at os hcs2
      have hL : ∀ (i : Nat), i < 8 → (V.add S).list[i]? = some ((V.list.getD i 0) + (S.list.getD i 0)) := by
        intro i hi
        rcases i with _ | _ | _ | _ | _ | _ | _ | _ | i <;> first | (simp [S8.add, S8.list]; done) | omega
      refine loopW_rule (fun st h' => ∃ (n : Nat) (q : GH), n ≤ 8 ∧ st = (n : Int) ∧ h' = q.h ∧ Mv [7, 3, 8] g.base q ∧ BlkC q 7 tp (Array.replicate 32 (.int .u8 0)) T.api_Tag ∧ OwnC T.uint8 1 q 1 al (A.map byV) ∧ OwnC T.uint32 1 q 2 ks (constK.map wv) ∧ OwnC T.uint32 1 q 3 vs (((V.add S).list.take n ++ V.list.drop n).map wv) ∧ OwnC T.uint32 1 q 8 s (S.list.map wv)) (fun st => 8 - st.toNat)
        ⟨0, q, by omega, rfl, rfl, m, b1, oal, oks, ovs, os⟩ ?_
      clear m b1 oal oks ovs os ows
      rintro Z _ _ ⟨n, q, hn8, rfl, rfl, m, b1, oal, oks, ovs, os⟩ hZ
      try simp only [derefK_some, fldK_some, Nat.zero_add, Nat.add_zero, Nat.reduceAdd, inj_int, inj_bool, inj_str, inj_ptr, inj_map, inj_slice, exists_eq_left, List.getElem?_toArray, List.getElem?_cons_zero, List.getElem?_cons_succ, Option.isNone_some, Option.isNone_none, Bool.not_true, Bool.not_false, Bool.false_eq_true, if_true, if_false, reduceIte, eq_self, not_true_eq_false, not_false_eq_true, bne_self_eq_false, beq_self_eq_true, decide_true, decide_false, decide_eq_true_eq, beq_iff_eq, bne_iff_ne, ne_eq]
      have hvl : (((V.add S).list.take n ++ V.list.drop n).map wv).length = 8 := by simp [hl8]; omega
      by_cases hlt3 : n < 8
      · rw [if_pos (by omega)]
        obtain ⟨vb, vo, rv, atv⟩ := ovs.rd.at_ (fun e => by rw [e] at hvl; simp at hvl) zU32
        obtain ⟨sb, so, rs, ats⟩ := os.rd.at_ (by simp [S8.list]) zU32
        refine atv (n : Int) _ (by omega) (by omega) (ats (n : Int) _ (by omega) (by simp [hl8]; omega) ?_)
        simp only [Int.toNat_natCast]
        have gv : (((V.add S).list.take n ++ V.list.drop n).map wv)[n]? = some (Kd.inj (.int .u32) ((V.list.getD n 0).toNat : Int)) := by
          rw [List.map_append, List.getElem?_append_right (by simp [hl8]; omega), List.length_map, List.length_take, hl8, Nat.min_eq_left hn8, Nat.sub_self, List.getElem?_map, List.getElem?_drop, Nat.add_zero, List.getElem?_eq_getElem (by rw [hl8]; exact hlt3)]
          simp [List.getD, List.getElem?_eq_getElem (show n < V.list.length by rw [hl8]; exact hlt3), Kd.inj]
        have gs : (S.list.map wv)[n]? = some (Kd.inj (.int .u32) ((S.list.getD n 0).toNat : Int)) := by
          rw [List.getElem?_map, List.getElem?_eq_getElem (by rw [hl8]; exact hlt3)]
          simp [List.getD, List.getElem?_eq_getElem (show n < S.list.length by rw [hl8]; exact hlt3), Kd.inj]
        refine loadK_cells rv (j := n) _ rfl gv (loadK_cells rs (j := n) _ rfl gs ?_)
        refine idxStore_C ovs zU32 (by omega) rfl fun r1 n1 ov1 => ?_
        rw [wrapSucc (by omega)]
        refine hZ _ _ ⟨n + 1, r1, by omega, rfl, rfl, m.step n1 (by simp), b1.mv n1 (by simp), oal.mv n1 (by simp), oks.mv n1 (by simp), ov1.cast ?_, os.mv n1 (by simp)⟩ (by simp; omega)
        rw [addBv]
        have h1 := hL n hlt3
        obtain ⟨h2, h3⟩ := List.getElem?_eq_some_iff.1 h1
        have h4 : V.list.drop n = V.list[n]'(by rw [hl8]; exact hlt3) :: V.list.drop (n + 1) := List.drop_eq_getElem_cons (by rw [hl8]; exact hlt3)
        rw [← h3, List.map_append, List.set_append_right _ _ (by simp [hl8]; omega), List.length_map, List.length_take, hl8, Nat.min_eq_left hn8, Nat.sub_self, h4, List.map_cons, List.set_cons_zero, List.take_succ_eq_append_getElem h2, List.map_append, List.map_append]
        simp
      · rw [if_neg (by omega)]
        have hn' : n = 8 := by omega
        subst hn'
        refine hX _ _ ⟨j + 1, q, by omega, by omega, rfl, m, b1, oal, oks, ovs.cast ?_⟩ (by simp; omega)
        rw [hcs, hcs2]
        have e1 : (V.add S).list.take 8 = (V.add S).list := rfl
        have e2 : V.list.drop 8 = [] := rfl
        rw [e1, e2, List.append_nil]
  · rw [if_neg (by omega)]
    have hj' : j = A.length / 64 := by omega
    subst hj'
    rw [hsha] at H
    refine new_C q 8 fun op q1 m1 bo => ?_
    replace m := m.step m1 (by simp)
    refine refBytes_spec vs _ (ovs.mv m1 (by simp)).rd.rd (by simp [S8.list]) fun s2 h2 own x hb => ⟨_, rfl, ?_⟩
    have o2 : OwnC T.uint8 1 (q1.to h2 9) 9 s2 _ := ⟨own, fun b hb' => q1.to_new _ _ _ (hb b hb')⟩
    have m2 := GH.to_ext (g := q1) (h' := h2) 9 x
    have hh : h2 = (q1.to h2 9).h := rfl
    generalize hq2 : q1.to h2 9 = q2 at o2 m2 hh
    rw [hh]
    replace m := m.step m2 (by simp)
    replace bo := bo.mv m2 (by simp)
    replace b1 := (b1.mv m1 (by simp)).mv m2 (by simp)
    generalize hT : (compN initS A (A.length / 64)).list.flatMap be4 = tg at o2 H
    have htl : tg.length = 32 := by rw [← hT]; simp [be4, S8.list]
    try dsimp only
    refine loopW_rule (fun st h' => ∃ (n : Nat) (q : GH), n ≤ 32 ∧ st = (n : Int) ∧ h' = q.h ∧ Mv [7, 3, 8] g.base q ∧ BlkC q 7 tp (Array.replicate 32 (.int .u8 0)) T.api_Tag ∧ OwnC T.uint8 1 q 9 s2 (tg.map byV) ∧ BlkC q 8 op ⟨(tg.take n ++ List.replicate (32 - n) 0).map byV⟩ T.api_Tag) (fun st => 32 - st.toNat)
      ⟨0, q2, by omega, rfl, rfl, m, b1, o2, by
        have e0 : (⟨(tg.take 0 ++ List.replicate (32 - 0) 0).map byV⟩ : Array Value) = Array.replicate 32 (.int .u8 0) := rfl
        rw [e0]; exact bo⟩ ?_
    clear m b1 o2 bo
    rintro Y _ _ ⟨n, q, hn32, rfl, rfl, m, b1, o2, bo⟩ hY
    try simp only [derefK_some, fldK_some, Nat.zero_add, Nat.add_zero, Nat.reduceAdd, inj_int, inj_bool, inj_str, inj_ptr, inj_map, inj_slice, exists_eq_left, List.getElem?_toArray, List.getElem?_cons_zero, List.getElem?_cons_succ, Option.isNone_some, Option.isNone_none, Bool.not_true, Bool.not_false, Bool.false_eq_true, if_true, if_false, reduceIte, eq_self, not_true_eq_false, not_false_eq_true, bne_self_eq_false, beq_self_eq_true, decide_true, decide_false, decide_eq_true_eq, beq_iff_eq, bne_iff_ne, ne_eq]
    by_cases hlt2 : n < 32
    · rw [if_pos (by omega)]
      refine idxLoadN o2.rd.rd zU8 (k := .int .u8) (tg[n]'(by omega)) (by rw [List.getElem?_map, List.getElem?_eq_getElem (by omega)]; rfl) ?_
      refine idxArr_N zU8 (by omega) ?_
      rw [Nat.zero_add]
      refine store_C bo (by simp; omega) rfl fun r1 n1 bo1 => ?_
      rw [wrapSucc (by omega)]
      refine hY _ _ ⟨n + 1, r1, by omega, rfl, rfl, m.step n1 (by simp), b1.mv n1 (by simp), o2.mv n1 (by simp), ?_⟩ (by simp; omega)
      have e : (⟨(tg.take n ++ List.replicate (32 - n) 0).map byV⟩ : Array Value).setIfInBounds n (.int .u8 (tg[n]'(by omega))) = ⟨(tg.take (n + 1) ++ List.replicate (32 - (n + 1)) 0).map byV⟩ := by
        obtain ⟨k, hk⟩ : ∃ k, 32 - n = k + 1 := ⟨32 - n - 1, by omega⟩
        rw [List.setIfInBounds_toArray, List.map_append, List.set_append_right _ _ (by simp; omega), List.length_map, List.length_take, Nat.min_eq_left (by omega), Nat.sub_self, hk, List.replicate_succ, List.map_cons, List.set_cons_zero, List.take_succ_eq_append_getElem (by omega), show 32 - (n + 1) = k from by omega]
        simp only [List.map_append, List.map_cons, List.map_nil, List.append_assoc, List.cons_append, List.nil_append]
      rw [← e]; exact bo1
    · rw [if_neg (by omega)]
      have hn' : n = 32 := by omega
      subst hn'
      have e : (⟨(tg.take 32 ++ List.replicate (32 - 32) 0).map byV⟩ : Array Value) = tagA tg := by rw [List.take_of_length_le (by omega)]; simp
      rw [e] at bo
      have hsz : (tagA tg).size = 32 := by simp [htl]
      rw [loadAggK_C bo]
      refine ⟨by rw [szTag, hsz]; omega, ?_⟩
      have hex : (tagA tg).extract 0 (0 + sizeOfT Tryz.prog T.api_Tag) = tagA tg := by rw [szTag]; exact extract_all hsz
      rw [hex]
      refine result_C (n := 32) szTag dTag b1 (by simp) hsz (fun v hv => oneBy _ v hv) fun q7 m7 => ?_
      exact H (g.via q7 fun _ => 0) ((m.step m7 (by simp)).via (by simp) _)

end Go.Proofs.YtafjmdeldejonaaGreat
