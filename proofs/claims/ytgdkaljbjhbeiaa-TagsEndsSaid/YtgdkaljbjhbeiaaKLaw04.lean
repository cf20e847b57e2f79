/-
  The statements of layer 4, their parts.
-/
import Derived.Test.YtgdkaljbjhbeiaaKRef04
set_option linter.unusedSimpArgs false
set_option linter.unusedVariables false
namespace Go.Proofs.Ytgdkaljbjhbeiaa
open Go Go.Ev

/-! ### The example -/

structure St04 (g q : GH) (pa pb pc p : Nat) : Prop where
  m : Mv [1, 2, 3, 4, 5, 6] g.base q
  a : BlkC q 4 pa (tagA (numT 0)) T.api_Tag
  b : BlkC q 5 pb (tagA (numT 1)) T.api_Tag
  c : BlkC q 6 pc (tagA (numT 0)) T.api_Tag
  x : MakC q 1 2 p false [] [thS [97], thD 0]
theorem St04.mv {g q q' : GH} {pa pb pc p : Nat} (s : St04 g q pa pb pc p) (m : Mv [] q q') : St04 g q' pa pb pc p := ⟨s.m.step m (by simp), s.a.mv m (by simp), s.b.mv m (by simp), s.c.mv m (by simp), s.x.mv m (by simp) (by simp)⟩

theorem storeTag_C {g : GH} {c p : Nat} {t : List Int} (ht : t.length = 32) (b : BlkC g c p (Array.replicate 32 (.int .u8 0)) T.api_Tag) {K : Heap → Prop} (H : ∀ g' : GH, Mv [c] g g' → BlkC g' c p (tagA t) T.api_Tag → K g'.h) :
    storeAggK (sizeOfT Try.prog T.api_Tag) g.h (some ⟨p, 0, none⟩) (tagA t) K := by
  refine storeAgg_C b (by rw [szTag]; simp [ht]) (by rw [szTag]; simp) (fun v hv => oneBy _ v hv) fun g1 m1 b1 => H g1 m1 ?_
  rw [overA_all (by simp [ht])] at b1
  exact b1

theorem ask1 : askT [] (thS [[97]].flatten) = (0, [thS [97]]) := by kernel_rfl
theorem ask2 : askT [thS [97]] (thD 0) = (1, [thS [97], thD 0]) := by kernel_rfl
theorem ask3 : askT [thS [97], thD 0] (thS [[97]].flatten) = (0, [thS [97], thD 0]) := by kernel_rfl

set_option maxHeartbeats 1000000 in
set_option maxRecDepth 20000 in
theorem awake04_spec (g : GH) {R : Value → Heap → Prop} (H : ∀ g' : GH, Mv [] g g' → R (.bool true) g'.h) : HC Try.prog F.law04_awake #[] R g.h := by
  refine law04_awake.calls ?_
  unfold law04_awake.body
  rw [zTag]
  have m := Mv.refl [1, 2, 3, 4] g.base
  refine makNew_spec g.base 1 2 false ⟨none, 0, 0⟩ [] (RdC.nil _ _ 0 _ _) (by simp) (by simp) fun p q1 m1 x => ⟨_, rfl, ?_⟩
  replace m := m.step m1 (by simp)
  refine newSl_C q1 3 rfl fun s2 q2 m2 o2 hn2 hc2 => ?_
  replace m := m.step m2 (by simp)
  replace x := x.mv m2 (by simp) (by simp)
  refine convRd (e := T.uint8) (by kernel_rfl) (by kernel_rfl) o2 (by simp) fun q3 m3 r3 k3 => ?_
  replace m := m.step m3 (by simp)
  replace x := x.mv m3 (by simp) (by simp)
  refine newSl_C q3 3 rfl fun s4 q4 m4 o4 hn4 hc4 => ?_
  replace m := m.step m4 (by simp)
  replace x := x.mv m4 (by simp) (by simp)
  refine sumTab_spec (d := 3) (by decide) x s4 [[97]] (RowsC.one (a := s2) o4.rd (r3.mv m4 (by simp)) (by omega)) (by simp [total]) (by simp) fun q5 m5 x5 => ⟨_, rfl, ?_⟩
  replace m := m.step m5 (by simp)
  rw [ask1] at x5 ⊢
  refine drawTab_spec (by decide) x5 0 (by omega) fun q6 m6 x6 => ⟨_, rfl, ?_⟩
  replace m := m.step m6 (by simp)
  rw [ask2] at x6 ⊢
  refine newSl_C q6 3 rfl fun s7 q7 m7 o7 hn7 hc7 => ?_
  replace m := m.step m7 (by simp)
  replace x6 := x6.mv m7 (by simp) (by simp)
  refine convRd (e := T.uint8) (by kernel_rfl) (by kernel_rfl) o7 (by simp) fun q8 m8 r8 k8 => ?_
  replace m := m.step m8 (by simp)
  replace x6 := x6.mv m8 (by simp) (by simp)
  refine newSl_C q8 3 rfl fun s9 q9 m9 o9 hn9 hc9 => ?_
  replace m := m.step m9 (by simp)
  replace x6 := x6.mv m9 (by simp) (by simp)
  refine sumTab_spec (d := 3) (by decide) x6 s9 [[97]] (RowsC.one (a := s7) o9.rd (r8.mv m9 (by simp)) (by omega)) (by simp [total]) (by simp) fun q10 m10 x10 => ⟨_, rfl, ?_⟩
  replace m := m.step m10 (by simp)
  rw [ask3] at x10 ⊢
  refine new_C q10 4 fun pa q11 m11 a11 => ?_
  replace m := m.step m11 (by simp)
  replace x10 := x10.mv m11 (by simp) (by simp)
  refine new_C q11 5 fun pb q12 m12 b12 => ?_
  have m' : Mv [1, 2, 3, 4, 5, 6] g.base q12 := (m.step m12 (by simp)).mono (by simp)
  replace x10 := x10.mv m12 (by simp) (by simp)
  replace a11 := a11.mv m12 (by simp)
  refine new_C q12 6 fun pc q13 m13 c13 => ?_
  replace m' := m'.step m13 (by simp)
  replace x10 := x10.mv m13 (by simp) (by simp)
  replace a11 := a11.mv m13 (by simp)
  replace b12 := b12.mv m13 (by simp)
  refine storeTag_C (numT_length _) a11 fun q14 m14 a14 => ?_
  replace m' := m'.step m14 (by simp)
  replace x10 := x10.mv m14 (by simp) (by simp)
  replace b12 := b12.mv m14 (by simp)
  replace c13 := c13.mv m14 (by simp)
  refine storeTag_C (numT_length _) b12 fun q15 m15 b15 => ?_
  replace m' := m'.step m15 (by simp)
  replace x10 := x10.mv m15 (by simp) (by simp)
  replace a14 := a14.mv m15 (by simp)
  replace c13 := c13.mv m15 (by simp)
  refine storeTag_C (numT_length _) c13 fun q16 m16 c16 => ?_
  replace m' := m'.step m16 (by simp)
  replace x10 := x10.mv m16 (by simp) (by simp)
  replace a14 := a14.mv m16 (by simp)
  replace b15 := b15.mv m16 (by simp)
  have fin : ∀ q : GH, St04 g q pa pb pc p → R (.bool true) q.h := fun q st => H (g.via q fun _ => 0) (st.m.via (by simp) _)
  have st : St04 g q16 pa pb pc p := ⟨m', a14, b15, c16, x10⟩
  clear m m' a14 b15 c16 x10 a11 b12 c13 m16 m15 m14 m13 m12 m11 x6 x5 x
  repeat' (first
    | exact fin _ st
    | refine loadAgg_whole st.a (tagA_size (numT_length _)) ?_
    | refine loadAgg_whole st.b (tagA_size (numT_length _)) ?_
    | refine loadAgg_whole st.c (tagA_size (numT_length _)) ?_
    | refine tag_eq (numT_length _) (numT_byte _) (numT_length _) (numT_byte _) ?_
    | refine tag_neq (numT_length _) (numT_byte _) (numT_length _) (numT_byte _) ?_
    | rw [if_pos (by kernel_rfl)]
    | (refine refNumber_spec _ _ (fun q' m' => ⟨_, rfl, ?_⟩); replace st := st.mv m')
    | refine len_spec st.x ⟨_, rfl, ?_⟩
    | (refine told_spec st.x _ (numT_length _) (numT_byte _) (fun q' m' => ⟨_, rfl, ?_⟩); replace st := st.mv m')
    | refine real_spec st.x ⟨_, rfl, ?_⟩
    | dsimp only
    | refine And.intro ?_ ?_)

/-! ### What is asked -/

abbrev ShAsk : Sh := .pair (.int .i64) (.pair (.sl (.int .u8)) (.pair (.sl (.sl (.int .u8))) (.pair (.int .i64) .unit)))
abbrev AskT := Int × List Int × List (List Int) × Int × Unit
abbrev AskT.what (d : AskT) : Int := d.1
abbrev AskT.key (d : AskT) : List Int := d.2.1
abbrev AskT.rows (d : AskT) : List (List Int) := d.2.2.1
abbrev AskT.num (d : AskT) : Int := d.2.2.2.1
def size04 (d : AskT) : Nat := d.key.length + d.rows.length + total d.rows
def sizes04 (l : List AskT) : Nat := l.length + (l.map size04).sum
theorem sizeAsk : sizeOfT Try.prog T.zugzwanglaw04_Ask = 4 := by kernel_rfl
theorem LayC.ask {g : GH} {c : Nat} {d : AskT} {cs : List Value} (l : LayC g c ShAsk d cs) : ∃ vk vr : Sl, cs = [.int .i64 d.what, slV vk, slV vr, .int .i64 d.num] ∧ SlC g c (.int .u8) vk d.key ∧ SlC g c (.sl (.int .u8)) vr d.rows ∧
    (-9223372036854775808 ≤ d.what ∧ d.what ≤ 9223372036854775807) ∧ (-9223372036854775808 ≤ d.num ∧ d.num ≤ 9223372036854775807) := by
  obtain ⟨c1, c2, rfl, ⟨rfl, h1⟩, c3, c4, rfl, l2, c5, c6, rfl, l3, c7, c8, rfl, ⟨rfl, h4⟩, rfl⟩ := l
  obtain ⟨vk, rfl, h2⟩ := l2.sl
  obtain ⟨vr, rfl, h3⟩ := l3.sl
  exact ⟨vk, vr, rfl, h2, h3, h1, h4⟩
theorem sumTake04 {l : List Nat} {i : Nat} (h : i < l.length) : (l.take (i + 1)).sum = (l.take i).sum + l[i] := by
  rw [List.take_succ_eq_append_getElem h, List.sum_append]; simp

theorem size04_spec {g : GH} {c : Nat} (v : Sl) (l : List AskT) (hl : SlC g c ShAsk v l) {R : Value → Heap → Prop} (H : ∀ n : Nat, n ≤ 10000000000000000 → (n ≤ 400 → sizes04 l ≤ n) → R (.int .i64 (n : Int)) g.h) :
    HC Try.prog F.law04_size #[.slice v.a v.n v.c] R g.h := by
  refine law04_size.calls (l0 := v) ?_
  unfold law04_size.body
  have hn := hl.len
  have hs := hl.small
  refine loopW_rule (fun st h' => ∃ i n : Nat, i ≤ l.length ∧ st = ((n : Int), (i : Int)) ∧ g.h = h' ∧ n ≤ 10000000000000000 ∧ (n ≤ 400 → n = l.length + ((l.map size04).take i).sum)) (fun st => l.length - st.2.toNat)
    ⟨0, v.n, by omega, by rfl, rfl, by omega, by simp [hn]⟩ ?_
  rintro X _ _ ⟨i, n, hi, rfl, rfl, hb, hq⟩ hX
  try dsimp only
  by_cases hlt : i < l.length
  · rw [if_pos (by first | omega | (simp [hn]; omega))]
    by_cases hm : n ≤ 400
    · rw [if_pos (by first | omega | (simp; omega))]
      have hq' := hq hm
      have hst := sumTake04 (l := l.map size04) (i := i) (by simpa using hlt)
      rw [List.getElem_map] at hst
      refine hl.idx (sizeAsk.trans rfl) (by decide) hlt fun b o cs rc lay => ?_
      obtain ⟨vk, vr, rfl, hvk, hvr, _, _⟩ := LayC.ask lay
      have n1 := hvk.len
      have n2 := hvr.len
      have s1 := hvk.small
      have s2 := hvr.small
      try simp only [derefK_some, fldK_some, Nat.zero_add, Nat.add_zero, Nat.reduceAdd, inj_int, inj_bool, inj_str, inj_ptr, inj_map, inj_slice, exists_eq_left, List.getElem?_toArray, List.getElem?_cons_zero, List.getElem?_cons_succ, Option.isNone_some, Option.isNone_none, Bool.not_true, Bool.not_false, Bool.false_eq_true, if_true, if_false, reduceIte, eq_self, not_true_eq_false, not_false_eq_true, bne_self_eq_false, beq_self_eq_true, decide_true, decide_false, decide_eq_true_eq, beq_iff_eq, bne_iff_ne, ne_eq]
      refine loadK_cells rc (k := .slice) (j := 1) vk rfl rfl ?_
      refine hl.idx (sizeAsk.trans rfl) (by decide) hlt fun b o cs rc lay => ?_
      obtain ⟨vk', vr', rfl, hvk', hvr', _, _⟩ := LayC.ask lay
      have n2' := hvr'.len
      try simp only [derefK_some, fldK_some, Nat.zero_add, Nat.add_zero, Nat.reduceAdd, inj_int, inj_bool, inj_str, inj_ptr, inj_map, inj_slice, exists_eq_left, List.getElem?_toArray, List.getElem?_cons_zero, List.getElem?_cons_succ, Option.isNone_some, Option.isNone_none, Bool.not_true, Bool.not_false, Bool.false_eq_true, if_true, if_false, reduceIte, eq_self, not_true_eq_false, not_false_eq_true, bne_self_eq_false, beq_self_eq_true, decide_true, decide_false, decide_eq_true_eq, beq_iff_eq, bne_iff_ne, ne_eq]
      refine loadK_cells rc (k := .slice) (j := 2) vr' rfl rfl ?_
      have hds : size04 l[i] = l[i].key.length + l[i].rows.length + total l[i].rows := rfl
      rw [wrapI64 (n := (n : Int) + (vk.n : Int)) (by omega) (by omega), wrapI64 (n := (n : Int) + (vk.n : Int) + (vr'.n : Int)) (by omega) (by omega)]
      refine loopW_rule (fun st h' => ∃ k n2 : Nat, k ≤ l[i].rows.length ∧ st = ((n2 : Int), (k : Int)) ∧ g.h = h' ∧ n2 ≤ 10000000000000000 ∧ (n2 ≤ 400 → n2 = n + l[i].key.length + l[i].rows.length + total (l[i].rows.take k))) (fun st => l[i].rows.length - st.2.toNat)
        ⟨0, n + vk.n + vr'.n, by omega, by simp, rfl, by omega, by simp [total]; omega⟩ ?_
      rintro Y _ _ ⟨k, n2, hk, rfl, rfl, hb2, hq2⟩ hY
      have htl := total_le (xss := l[i].rows) k
      try dsimp only
      refine hl.idx (sizeAsk.trans rfl) (by decide) hlt fun b o cs rc lay => ?_
      obtain ⟨vk3, vr3, rfl, hvk3, hvr3, _, _⟩ := LayC.ask lay
      have hwn := hvr3.len
      try simp only [derefK_some, fldK_some, Nat.zero_add, Nat.add_zero, Nat.reduceAdd, inj_int, inj_bool, inj_str, inj_ptr, inj_map, inj_slice, exists_eq_left, List.getElem?_toArray, List.getElem?_cons_zero, List.getElem?_cons_succ, Option.isNone_some, Option.isNone_none, Bool.not_true, Bool.not_false, Bool.false_eq_true, if_true, if_false, reduceIte, eq_self, not_true_eq_false, not_false_eq_true, bne_self_eq_false, beq_self_eq_true, decide_true, decide_false, decide_eq_true_eq, beq_iff_eq, bne_iff_ne, ne_eq]
      refine loadK_cells rc (k := .slice) (j := 2) vr3 rfl rfl ?_
      by_cases hkl : k < l[i].rows.length
      · rw [if_pos (by first | omega | (simp [hwn]; omega))]
        by_cases hm2 : n2 ≤ 400
        · rw [if_pos (by first | omega | (simp; omega))]
          refine hl.idx (sizeAsk.trans rfl) (by decide) hlt fun b o cs rc lay => ?_
          obtain ⟨vk4, vr4, rfl, hvk4, hvr4, _, _⟩ := LayC.ask lay
          obtain ⟨hrow, hby, hlen⟩ := hvr4.rows
          try simp only [derefK_some, fldK_some, Nat.zero_add, Nat.add_zero, Nat.reduceAdd, inj_int, inj_bool, inj_str, inj_ptr, inj_map, inj_slice, exists_eq_left, List.getElem?_toArray, List.getElem?_cons_zero, List.getElem?_cons_succ, Option.isNone_some, Option.isNone_none, Bool.not_true, Bool.not_false, Bool.false_eq_true, if_true, if_false, reduceIte, eq_self, not_true_eq_false, not_false_eq_true, bne_self_eq_false, beq_self_eq_true, decide_true, decide_false, decide_eq_true_eq, beq_iff_eq, bne_iff_ne, ne_eq]
          refine loadK_cells rc (k := .slice) (j := 2) vr4 rfl rfl ?_
          refine hrow.idx (by kernel_rfl) hkl fun s1 r1 _ => ?_
          have h1 := r1.len
          have h2 := total_take hkl
          have h3 := hlen _ (List.getElem_mem hkl)
          simp at h1
          rw [wrapSucc (by omega), wrapI64 (by omega) (by omega)]
          exact hY _ _ ⟨k + 1, n2 + s1.n, by omega, by simp, rfl, by omega, fun h => by rw [h2]; have := hq2 hm2; omega⟩ (by simp; omega)
        · rw [if_neg (by first | omega | (simp; omega)), wrapSucc (by omega)]
          exact hX _ _ ⟨i + 1, n2, by omega, rfl, rfl, hb2, fun h => absurd h hm2⟩ (by simp; omega)
      · rw [if_neg (by first | omega | (simp [hwn]; omega)), wrapSucc (by omega)]
        have hk' : k = l[i].rows.length := by omega
        subst hk'
        rw [List.take_length] at hq2
        exact hX _ _ ⟨i + 1, n2, by omega, rfl, rfl, hb2, fun h => by rw [hst]; have := hq2 h; omega⟩ (by simp; omega)
    · rw [if_neg (by first | omega | (simp; omega))]
      exact H n hb (fun h => absurd h hm)
  · rw [if_neg (by first | omega | (simp [hn]; omega))]
    have hi' : i = l.length := by omega
    subst hi'
    have ht : (l.map size04).take l.length = l.map size04 := List.take_of_length_le (by simp)
    rw [ht] at hq
    exact H n hb (fun h => by unfold sizes04; have := hq h; omega)

/-- What a real maker tells of what is asked. -/
def tellR (seed : List Int) (a : AskT) : List Int :=
  if a.what % 3 = 0 then shaB a.rows.flatten else if a.what % 3 = 1 then macB a.key a.rows.flatten else shaB (drawB ++ seed ++ eightB a.num)
theorem tellR_length (seed : List Int) (a : AskT) : (tellR seed a).length = 32 := by unfold tellR; split; · simp [shaB_length]
                                                                                     split <;> simp [shaB_length, macB]

theorem told04_spec {g : GH} {c k p d : Nat} {seed : List Int} {asked : List ShThing.T} (x : MakC g c k p true seed asked) {a : AskT} {cs : List Value} (lay : LayC g d ShAsk a cs) (h1 : a.key.length ≤ 70000000) (h2 : total a.rows ≤ 70000000) (h3 : a.rows.length ≤ 10000000)
    {R : Value → Heap → Prop} (H : ∀ g' : GH, Mv [] g g' → R (.agg (tagA (tellR seed a))) g'.h) : HC Try.prog F.law04_told #[.pointer (some ⟨p, 0, none⟩), .agg ⟨cs⟩] R g.h := by
  refine law04_told.calls ?_
  unfold law04_told.body
  obtain ⟨vk, vr, rfl, hk, hr, hw, hn⟩ := LayC.ask lay
  have m := Mv.refl [1, 2] g.base
  have x0 := x.base
  rw [zTag]
  refine new_C g.base 1 fun q q1 m1 b1 => ?_
  replace m := m.step m1 (by simp)
  replace x0 := x0.mv m1 (by simp) (by simp)
  refine new_C q1 2 fun t q2 m2 b2 => ?_
  replace m := m.step m2 (by simp)
  replace b1 := b1.mv m2 (by simp)
  replace x0 := x0.mv m2 (by simp) (by simp)
  rw [fldK_some, loadK_C b1]
  refine ⟨a.what, rfl, ?_⟩
  refine Pick_spec _ _ hw (by omega) ⟨_, rfl, ?_⟩
  obtain ⟨rk, hkb, _⟩ : RdC 1 g d vk (a.key.map byV) ∧ (∀ x ∈ a.key, isByte x) ∧ True := ⟨hk.ints.1, hk.ints.2, trivial⟩
  obtain ⟨rr, hrb, _⟩ := hr.rows
  have fin : ∀ q3 : GH, Mv [] q2 q3 → ∀ u : List Int, tellR seed a = u → u.length = 32 →
      storeAggK (sizeOfT Try.prog T.api_Tag) q3.h (some ⟨t, 0, none⟩) (tagA u) (fun (h : Heap) =>
      quietK Try.prog .agg (Instr.loadAt T.api_Tag (.pointer (some ⟨t, 0, none⟩))) (fun (r_9 : Array Value) =>
      R (.agg r_9) h) h) := by
    intro q3 m3 u hu hl
    refine result_C (n := 32) szTag dTag (b2.mv m3 (by simp)) (by simp) (by simp [hl]) (fun v hv => oneBy _ v hv) fun q5 m5 => ?_
    rw [← hu]
    exact H (g.via q5 fun _ => 0) (((m.step m3 (by simp)).step m5 (by simp)).via (by simp) _)
  by_cases h0 : a.what % 3 = 0
  · rw [if_pos (by simpa using h0), fldK_some, loadK_C b1]
    refine ⟨vr, rfl, ?_⟩
    refine sumReal_spec x0 vr a.rows (rr.arg m (by simp)) hrb (by omega) (by omega) fun q3 m3 => ⟨_, rfl, ?_⟩
    exact fin q3 m3 _ (by simp [tellR, h0]) (by simp [shaB_length])
  · rw [if_neg (by simpa using h0)]
    by_cases h1' : a.what % 3 = 1
    · rw [if_pos (by simpa using h1'), fldK_some, loadK_C b1]
      refine ⟨vk, rfl, ?_⟩
      rw [fldK_some, loadK_C b1]
      refine ⟨vr, rfl, ?_⟩
      refine macReal_spec x0 vk vr a.key a.rows (rk.arg m (by simp)) hk.cap h1 hkb (rr.arg m (by simp)) hrb h2 h3 fun q3 m3 => ⟨_, rfl, ?_⟩
      exact fin q3 m3 _ (by simp [tellR, h1']) (by simp [macB, shaB_length])
    · rw [if_neg (by simpa using h1'), fldK_some, loadK_C b1]
      refine ⟨a.num, rfl, ?_⟩
      refine drawReal_spec x0 a.num fun q3 m3 => ⟨_, rfl, ?_⟩
      exact fin q3 m3 _ (by simp [tellR, h0, h1']) (by simp [shaB_length])

end Go.Proofs.Ytgdkaljbjhbeiaa
