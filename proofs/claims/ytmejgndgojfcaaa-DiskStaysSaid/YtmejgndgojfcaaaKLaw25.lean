/-
  The statements of layer 25, their parts: the example, sizes, deeds.
-/
import Derived.Test.YtmejgndgojfcaaaKDisk
set_option linter.unusedSimpArgs false
set_option linter.unusedVariables false
namespace Go.Proofs.Ytmejgndgojfcaaa
open Go Go.Ev

theorem awake_spec (g : GH) {R : Value → Heap → Prop} (H : ∀ g' : GH, Mv [] g g' → R (.bool true) g'.h) : HC Try.prog F.law25_awake #[] R g.h := by
  refine law25_awake.calls ?_
  unfold law25_awake.body
  have m0 := Mv.refl [1, 2] g.base
  refine NewDisk_spec g.base 1 2 (by decide) ⟨none, 0, 0⟩ [] (RowsC.nil g.base 0 _ _) (by decide) (by decide) (fun p q1 _ m1 d1 => ⟨(_, _), rfl, ?_⟩) (fun _ h => absurd (by decide) h)
  replace m0 := m0.step m1 (by simp)
  simp only [derefK_some, fldK_some, Nat.zero_add, Nat.add_zero, Nat.reduceAdd, inj_int, inj_bool, inj_str, inj_ptr, inj_map, inj_slice, exists_eq_left, List.getElem?_toArray, List.getElem?_cons_zero, List.getElem?_cons_succ, Option.isNone_some, Option.isNone_none, Bool.not_true, Bool.not_false, Bool.false_eq_true, if_true, if_false, reduceIte, eq_self, not_true_eq_false, not_false_eq_true, bne_self_eq_false, beq_self_eq_true, decide_true, decide_false, decide_eq_true_eq, beq_iff_eq, bne_iff_ne, ne_eq, bne_self_eq_false]
  refine newSl_C q1 3 rfl fun s1 q2 m1 o1 hn1 hc1 => ?_
  refine newSl_C q2 3 rfl fun s2 q3 m2 o2 hn2 hc2 => ?_
  have m := m1.trans m2
  replace d1 := d1.mv m (by simp) (by simp)
  replace m0 := m0.step m (by simp)
  have r2 : RowsC q3 3 s2 [[1, 2]] := RowsC.one o2.rd (o1.rd.mv m2 (by simp)) (by omega)
  refine Write_spec (by decide) (by decide) (by decide) d1 s2 _ r2 (by decide) (by decide) (fun _ q4 m4 d4 => ⟨_, rfl, ?_⟩) (fun h => absurd (by decide) h)
  replace m0 := m0.step m4 (by simp)
  simp only [derefK_some, fldK_some, Nat.zero_add, Nat.add_zero, Nat.reduceAdd, inj_int, inj_bool, inj_str, inj_ptr, inj_map, inj_slice, exists_eq_left, List.getElem?_toArray, List.getElem?_cons_zero, List.getElem?_cons_succ, Option.isNone_some, Option.isNone_none, Bool.not_true, Bool.not_false, Bool.false_eq_true, if_true, if_false, reduceIte, eq_self, not_true_eq_false, not_false_eq_true, bne_self_eq_false, beq_self_eq_true, decide_true, decide_false, decide_eq_true_eq, beq_iff_eq, bne_iff_ne, ne_eq, bne_self_eq_false]
  refine Sync_spec (by decide) d4 (fun q5 m5 d5 => ⟨_, rfl, ?_⟩)
  replace m0 := m0.step m5 (by simp)
  simp only [derefK_some, fldK_some, Nat.zero_add, Nat.add_zero, Nat.reduceAdd, inj_int, inj_bool, inj_str, inj_ptr, inj_map, inj_slice, exists_eq_left, List.getElem?_toArray, List.getElem?_cons_zero, List.getElem?_cons_succ, Option.isNone_some, Option.isNone_none, Bool.not_true, Bool.not_false, Bool.false_eq_true, if_true, if_false, reduceIte, eq_self, not_true_eq_false, not_false_eq_true, bne_self_eq_false, beq_self_eq_true, decide_true, decide_false, decide_eq_true_eq, beq_iff_eq, bne_iff_ne, ne_eq, bne_self_eq_false]
  refine newSl_C q5 3 rfl fun s6 q6 m6 o6 hn6 hc6 => ?_
  refine newSl_C q6 3 rfl fun s7 q7 m7 o7 hn7 hc7 => ?_
  refine newSl_C q7 3 rfl fun s8 q8 m8 o8 hn8 hc8 => ?_
  have r8 : RowsC q8 3 s8 [[3], [4, 5]] := RowsC.two o8.rd ((o6.rd.mv m7 (by simp)).mv m8 (by simp)) (by omega) (o7.rd.mv m8 (by simp)) (by omega)
  have m := (m6.trans m7).trans m8
  replace d5 := d5.mv m (by simp) (by simp)
  replace m0 := m0.step m (by simp)
  refine Write_spec (by decide) (by decide) (by decide) d5 s8 _ r8 (by decide) (by decide) (fun _ q9 m9 d9 => ⟨_, rfl, ?_⟩) (fun h => absurd (by decide) h)
  replace m0 := m0.step m9 (by simp)
  simp only [derefK_some, fldK_some, Nat.zero_add, Nat.add_zero, Nat.reduceAdd, inj_int, inj_bool, inj_str, inj_ptr, inj_map, inj_slice, exists_eq_left, List.getElem?_toArray, List.getElem?_cons_zero, List.getElem?_cons_succ, Option.isNone_some, Option.isNone_none, Bool.not_true, Bool.not_false, Bool.false_eq_true, if_true, if_false, reduceIte, eq_self, not_true_eq_false, not_false_eq_true, bne_self_eq_false, beq_self_eq_true, decide_true, decide_false, decide_eq_true_eq, beq_iff_eq, bne_iff_ne, ne_eq, bne_self_eq_false]
  refine Synced_spec d9 ⟨_, rfl, ?_⟩
  dsimp only
  rw [if_neg (by decide)]
  refine Fall_spec (by decide) d9 1 (fun q10 m10 d10 => ⟨_, rfl, ?_⟩)
  replace m0 := m0.step m10 (by simp)
  simp only [derefK_some, fldK_some, Nat.zero_add, Nat.add_zero, Nat.reduceAdd, inj_int, inj_bool, inj_str, inj_ptr, inj_map, inj_slice, exists_eq_left, List.getElem?_toArray, List.getElem?_cons_zero, List.getElem?_cons_succ, Option.isNone_some, Option.isNone_none, Bool.not_true, Bool.not_false, Bool.false_eq_true, if_true, if_false, reduceIte, eq_self, not_true_eq_false, not_false_eq_true, bne_self_eq_false, beq_self_eq_true, decide_true, decide_false, decide_eq_true_eq, beq_iff_eq, bne_iff_ne, ne_eq, bne_self_eq_false]
  refine Bytes_spec' q10 3 d10 (fun s11 q11 m11 o11 => ⟨_, rfl, ?_⟩)
  refine newSl_C q11 3 rfl fun s12 q12 m12 o12 hn12 hc12 => ?_
  have m := m11.trans m12
  replace d10 := d10.mv m (by simp) (by simp)
  replace m0 := m0.step m (by simp)
  refine SameBytes_spec s11 s12 _ [1, 2, 3] (o11.rd.mv m12 (by simp)).rd o12.rd.rd (by decide) (by decide) ⟨_, rfl, ?_⟩
  rw [decide_eq_true (by decide)]
  try simp only [derefK_some, fldK_some, Nat.zero_add, Nat.add_zero, Nat.reduceAdd, inj_int, inj_bool, inj_str, inj_ptr, inj_map, inj_slice, exists_eq_left, List.getElem?_toArray, List.getElem?_cons_zero, List.getElem?_cons_succ, Option.isNone_some, Option.isNone_none, Bool.not_true, Bool.not_false, Bool.false_eq_true, if_true, if_false, reduceIte, eq_self, not_true_eq_false, not_false_eq_true, bne_self_eq_false, beq_self_eq_true, decide_true, decide_false, decide_eq_true_eq, beq_iff_eq, bne_iff_ne, ne_eq]
  refine Synced_spec d10 ⟨_, rfl, ?_⟩
  exact H (g.via q12 fun _ => 0) (m0.via (by simp) _)

/-- A deed of the statement. -/
abbrev ShDeed : Sh := .pair (.int .i64) (.pair (.int .i64) (.pair (.sl (.sl (.int .u8))) .unit))
abbrev Deed := Int × Int × List (List Int) × Unit
def deedSize (d : Deed) : Nat := d.2.2.1.length + total d.2.2.1
def deedsSize (l : List Deed) : Nat := l.length + (l.map deedSize).sum

theorem LayC.deed {g : GH} {c : Nat} {d : Deed} {cs : List Value} (l : LayC g c ShDeed d cs) : ∃ v : Sl, cs = [.int .i64 d.1, .int .i64 d.2.1, slV v] ∧ SlC g c (.sl (.int .u8)) v d.2.2.1 ∧
    (-9223372036854775808 ≤ d.1 ∧ d.1 ≤ 9223372036854775807) ∧ (-9223372036854775808 ≤ d.2.1 ∧ d.2.1 ≤ 9223372036854775807) := by
  obtain ⟨c1, c2, rfl, ⟨rfl, h1⟩, c3, c4, rfl, ⟨rfl, h2⟩, c5, c6, rfl, l3, rfl⟩ := l
  obtain ⟨v, rfl, h3⟩ := l3.sl
  exact ⟨v, rfl, h3, h1, h2⟩

theorem LayC.mkDeed {g : GH} {c : Nat} {v : Sl} {xss : List (List Int)} (h : SlC g c (.sl (.int .u8)) v xss) (a b : Int) (ha : -9223372036854775808 ≤ a ∧ a ≤ 9223372036854775807) (hb : -9223372036854775808 ≤ b ∧ b ≤ 9223372036854775807) :
    LayC g c ShDeed (a, b, xss, ()) [.int .i64 a, .int .i64 b, slV v] :=
  ⟨[.int .i64 a], [.int .i64 b, slV v], rfl, ⟨rfl, ha⟩, [.int .i64 b], [slV v], rfl, ⟨rfl, hb⟩, [slV v], [], rfl, h, rfl⟩
theorem build_Deed (v : Sl) (w : World) : (Instr.build T.zugzwanglaw25_Deed #[(2, .slice v.a v.n v.c)]).run Try.prog w = .ok (.agg #[.int .i64 0, .int .i64 0, slV v]) w := by kernel_rfl
theorem sizeDeed : sizeOfT Try.prog T.zugzwanglaw25_Deed = 3 := by kernel_rfl

theorem sum_take {l : List Nat} {i : Nat} (h : i < l.length) : (l.take (i + 1)).sum = (l.take i).sum + l[i] := by
  rw [List.take_succ_eq_append_getElem h, List.sum_append]; simp

theorem size_spec {g : GH} {c : Nat} (v : Sl) (l : List Deed) (hl : SlC g c ShDeed v l) {R : Value → Heap → Prop} (H : ∀ n : Nat, n ≤ 1000000000000000 → (n ≤ 2000 → deedsSize l ≤ 2000) → (deedsSize l ≤ 2000 → n ≤ 2000) → R (.int .i64 (n : Int)) g.h) :
    HC Try.prog F.law25_size #[.slice v.a v.n v.c] R g.h := by
  refine law25_size.calls (l0 := v) ?_
  unfold law25_size.body
  have hn := hl.len
  have hs := hl.small
  refine loopW_rule (fun st h' => ∃ i n : Nat, i ≤ l.length ∧ st = ((n : Int), (i : Int)) ∧ g.h = h' ∧ n ≤ 1000000000000000 ∧ n ≤ l.length + ((l.map deedSize).take i).sum ∧ (n ≤ 2000 → n = l.length + ((l.map deedSize).take i).sum)) (fun st => l.length - st.2.toNat)
    ⟨0, v.n, by omega, by rfl, rfl, by omega, by simp [hn], by simp [hn]⟩ ?_
  rintro X _ _ ⟨i, n, hi, rfl, rfl, hb, hle, hq⟩ hX
  dsimp only
  by_cases hlt : i < l.length
  · rw [if_pos (by first | omega | (simp [hn]; omega))]
    by_cases hm : n ≤ 2000
    · rw [if_pos (by first | omega | (simp; omega))]
      have hq' := hq hm
      have hst := sum_take (l := l.map deedSize) (i := i) (by simpa using hlt)
      rw [List.getElem_map] at hst
      refine hl.idx (sizeDeed.trans rfl) (by decide) hlt fun b o cs rc lay => ?_
      obtain ⟨w, rfl, hw, _, _⟩ := LayC.deed lay
      obtain ⟨hrow, hby, hlen⟩ := hw.rows
      have hwn := hw.len
      have hws := hw.small
      try simp only [derefK_some, fldK_some, Nat.zero_add, Nat.add_zero, Nat.reduceAdd, inj_int, inj_bool, inj_str, inj_ptr, inj_map, inj_slice, exists_eq_left, List.getElem?_toArray, List.getElem?_cons_zero, List.getElem?_cons_succ, Option.isNone_some, Option.isNone_none, Bool.not_true, Bool.not_false, Bool.false_eq_true, if_true, if_false, reduceIte, eq_self, not_true_eq_false, not_false_eq_true, bne_self_eq_false, beq_self_eq_true, decide_true, decide_false, decide_eq_true_eq, beq_iff_eq, bne_iff_ne, ne_eq]
      refine loadK_cells rc (k := .slice) (j := 2) w rfl rfl ?_
      have hds : deedSize l[i] = l[i].2.2.1.length + total l[i].2.2.1 := rfl
      rw [wrapI64 (n := (n : Int) + (w.n : Int)) (by omega) (by omega)]
      refine loopW_rule (fun st h' => ∃ k n2 : Nat, k ≤ l[i].2.2.1.length ∧ st = ((n2 : Int), (k : Int)) ∧ g.h = h' ∧ n2 ≤ 1000000000000000 ∧ n2 ≤ n + l[i].2.2.1.length + total (l[i].2.2.1.take k) ∧ (n2 ≤ 2000 → n2 = n + l[i].2.2.1.length + total (l[i].2.2.1.take k))) (fun st => l[i].2.2.1.length - st.2.toNat)
        ⟨0, n + w.n, by omega, by simp, rfl, by omega, by simp [total]; omega, by simp [total]; omega⟩ ?_
      rintro Y _ _ ⟨k, n2, hk, rfl, rfl, hb2, hle2, hq2⟩ hY
      have htl := total_le (xss := l[i].2.2.1) k
      dsimp only
      refine hl.idx (sizeDeed.trans rfl) (by decide) hlt fun b o cs rc lay => ?_
      obtain ⟨w, rfl, hw, _, _⟩ := LayC.deed lay
      obtain ⟨hrow, hby, hlen⟩ := hw.rows
      have hwn := hw.len
      try simp only [derefK_some, fldK_some, Nat.zero_add, Nat.add_zero, Nat.reduceAdd, inj_int, inj_bool, inj_str, inj_ptr, inj_map, inj_slice, exists_eq_left, List.getElem?_toArray, List.getElem?_cons_zero, List.getElem?_cons_succ, Option.isNone_some, Option.isNone_none, Bool.not_true, Bool.not_false, Bool.false_eq_true, if_true, if_false, reduceIte, eq_self, not_true_eq_false, not_false_eq_true, bne_self_eq_false, beq_self_eq_true, decide_true, decide_false, decide_eq_true_eq, beq_iff_eq, bne_iff_ne, ne_eq]
      refine loadK_cells rc (k := .slice) (j := 2) w rfl rfl ?_
      by_cases hkl : k < l[i].2.2.1.length
      · rw [if_pos (by first | omega | (simp [hwn]; omega))]
        by_cases hm2 : n2 ≤ 2000
        · rw [if_pos (by first | omega | (simp; omega))]
          refine hl.idx (sizeDeed.trans rfl) (by decide) hlt fun b o cs rc lay => ?_
          obtain ⟨w, rfl, hw, _, _⟩ := LayC.deed lay
          obtain ⟨hrow, hby, hlen⟩ := hw.rows
          try simp only [derefK_some, fldK_some, Nat.zero_add, Nat.add_zero, Nat.reduceAdd, inj_int, inj_bool, inj_str, inj_ptr, inj_map, inj_slice, exists_eq_left, List.getElem?_toArray, List.getElem?_cons_zero, List.getElem?_cons_succ, Option.isNone_some, Option.isNone_none, Bool.not_true, Bool.not_false, Bool.false_eq_true, if_true, if_false, reduceIte, eq_self, not_true_eq_false, not_false_eq_true, bne_self_eq_false, beq_self_eq_true, decide_true, decide_false, decide_eq_true_eq, beq_iff_eq, bne_iff_ne, ne_eq]
          refine loadK_cells rc (k := .slice) (j := 2) w rfl rfl ?_
          refine hrow.idx (by kernel_rfl) hkl fun s1 r1 _ => ?_
          have h1 := r1.len
          have h2 := total_take hkl
          have h3 := hlen _ (List.getElem_mem hkl)
          simp at h1
          rw [wrapSucc (by omega), wrapI64 (by omega) (by omega)]
          exact hY _ _ ⟨k + 1, n2 + s1.n, by omega, by simp, rfl, by omega, by rw [h2]; omega, fun h => by rw [h2]; have := hq2 hm2; omega⟩ (by simp; omega)
        · rw [if_neg (by first | omega | (simp; omega)), wrapSucc (by omega)]
          exact hX _ _ ⟨i + 1, n2, by omega, rfl, rfl, hb2, by rw [hst]; omega, fun h => absurd h hm2⟩ (by simp; omega)
      · rw [if_neg (by first | omega | (simp [hwn]; omega)), wrapSucc (by omega)]
        have hk' : k = l[i].2.2.1.length := by omega
        subst hk'
        rw [List.take_length] at hq2
        exact hX _ _ ⟨i + 1, n2, by omega, rfl, rfl, hb2, by rw [hst]; omega, fun h => by rw [hst]; have := hq2 h; omega⟩ (by simp; omega)
    · rw [if_neg (by first | omega | (simp; omega))]
      refine H n hb (fun h => absurd h hm) (fun h => ?_)
      unfold deedsSize at h
      have : ((l.map deedSize).take i).sum ≤ (l.map deedSize).sum := by
        conv => rhs; rw [← List.take_append_drop i (l.map deedSize), List.sum_append]
        omega
      omega
  · rw [if_neg (by first | omega | (simp [hn]; omega))]
    have hi' : i = l.length := by omega
    subst hi'
    have ht : (l.map deedSize).take l.length = l.map deedSize := List.take_of_length_le (by simp)
    rw [ht] at hle hq
    exact H n hb (fun h => by unfold deedsSize; have := hq h; omega) (fun h => by unfold deedsSize at h; omega)

end Go.Proofs.Ytmejgndgojfcaaa
