/-
  The statement CommitHides.
-/
import Derived.Test.YthaehcldmhldjaaKHides22
import Derived.Test.YthaehcldmhldjaaKCommitCovers
set_option linter.unusedSimpArgs false
set_option linter.unusedVariables false
namespace Go.Proofs.Ythaehcldmhldjaa
open Go Go.Ev

theorem SameTags_spec {g : GH} {c d : Nat} {a b : Sl} {xs ys : List (List Int)} (ha : SlC g c ShTag a xs) (hb : SlC g d ShTag b ys) {R : Value → Heap → Prop} (H : R (.bool (decide (xs = ys))) g.h) :
    HC Try.prog F.kit_SameTags #[.slice a.a a.n a.c, .slice b.a b.n b.c] R g.h := by
  refine kit_SameTags.calls (a0 := a) (b1 := b) ?_
  unfold kit_SameTags.body
  have hn : a.n = xs.length := ha.len
  have hm : b.n = ys.length := hb.len
  have hs : xs.length ≤ 140737488351232 := ha.small
  by_cases hl : xs.length = ys.length
  · rw [if_neg (by simp [hn, hm, hl])]
    refine loopW_rule (fun st h' => ∃ i : Nat, i ≤ xs.length ∧ st = (i : Int) ∧ g.h = h' ∧ xs.take i = ys.take i) (fun st => xs.length - st.toNat) ⟨0, by omega, rfl, rfl, by simp⟩ ?_
    rintro X _ _ ⟨i, hi, rfl, rfl, ht⟩ hX
    try dsimp only
    by_cases hlt : i < xs.length
    · have hlt2 : i < ys.length := by omega
      rw [if_pos (by simp; omega)]
      refine ha.idxF rfl szF_Tag (by decide) hlt fun b1 o1 hcs ok hel => ?_
      refine loadF hcs szF_Tag (by decide) hel ?_
      refine hb.idxF rfl szF_Tag (by decide) hlt2 fun b2 o2 hcs' ok' hel' => ?_
      refine loadF hcs' szF_Tag (by decide) hel' ?_
      refine neqF_Tag ok ok' fun r hr => ?_
      by_cases he : xs[i] = ys[i]
      · rw [if_neg (fun h => (hr.1 h) he), wrapSucc (by omega)]
        refine hX _ _ ⟨i + 1, by omega, rfl, rfl, ?_⟩ (by simp; omega)
        rw [List.take_succ_eq_append_getElem hlt, List.take_succ_eq_append_getElem hlt2, ht, he]
      · rw [if_pos (hr.2 he)]
        rw [decide_eq_false (by rintro rfl; exact he rfl)] at H
        exact H
    · rw [if_neg (by simp; omega)]
      rw [List.take_of_length_le (by omega), List.take_of_length_le (by omega)] at ht
      rw [decide_eq_true ht] at H
      exact H
  · rw [if_pos (by simp [hn, hm]; omega)]
    rw [decide_eq_false (by rintro rfl; exact hl rfl)] at H
    exact H

theorem asks22_snoc (x : List Int) : ∀ (l : List (List Int)) (A : List ShThing.T), asks22 A (l ++ [x]) = if markT x = true then asks22 A l else ((asks22 A l).1 ++ [numT ((askT (asks22 A l).2 (thS x)).1 : Int)], (askT (asks22 A l).2 (thS x)).2)
  | [], A => by
    simp only [List.nil_append, asks22]
  | y :: l, A => by
    simp only [List.cons_append, asks22, asks22_snoc x l]
    by_cases h : markT y = true <;> by_cases h' : markT x = true <;> simp [h, h']
theorem asks22_len : ∀ (l : List (List Int)) (A : List ShThing.T), (asks22 A l).1.length ≤ l.length
  | [], A => by simp [asks22]
  | y :: l, A => by
    unfold asks22
    split
    · have := asks22_len l A; simp; omega
    · have := asks22_len l (askT A (thS y)).2; simp; omega
theorem okNumT (n : Int) : ShTag.ok (numT n) := okTag (numT_length n) (numT_byte n)
theorem rowsB_len : ∀ rows : List (List Int), (rowsB rows).length = 4 * rows.length + total rows
  | [] => by simp [rowsB, total]
  | x :: rows => by
    have := rowsB_len rows
    simp only [rowsB, total, List.map_cons, List.flatten_cons, List.length_append, List.length_cons, runB, fourB, List.length_nil] at this ⊢
    omega
theorem rowsB_byte {rows : List (List Int)} (h : ∀ xs ∈ rows, ∀ x ∈ xs, isByte x) : ∀ x ∈ rowsB rows, isByte x := by
  intro z hz
  obtain ⟨r, h1, h2⟩ := List.mem_flatten.1 hz
  obtain ⟨xs, h3, rfl⟩ := List.mem_map.1 h1
  rcases List.mem_append.1 h2 with h2 | h2
  · simp only [fourB, List.mem_cons, List.mem_nil_iff, or_false] at h2
    rcases h2 with rfl | rfl | rfl | rfl <;> exact isByte_wrap _
  · exact h xs h3 z h2

/-- A loop that asks what does not bear the mark. -/
theorem asks_loop {q0 : GH} {p : Nat} (mx : MaxC q0 0) (v : Sl) (xss : List (List Int)) (hr : RowsC q0 0 v xss) (hby : ∀ xs ∈ xss, ∀ x ∈ xs, isByte x) (hxl : ∀ x ∈ xss, x.length ≤ 100000) (hl : xss.length ≤ 100000)
    (s0 : Sl) (out : List (List Int)) (o : OwnF T.api_Tag ShTag q0 3 s0 out) (hol : out.length ≤ 1000000) (A : List ShThing.T) (x : MakC q0 1 2 p false [] A) {K : Sl × Int → Heap → Prop}
    (H : ∀ (s : Sl) (n : Int) (q : GH), Mv [1, 2, 3, 4, 5] q0 q → OwnF T.api_Tag ShTag q 3 s (out ++ (asks22 A xss).1) → MakC q 1 2 p false [] (asks22 A xss).2 → K (s, n) q.h) :
    loopW (fun X (s_2 : Sl × Int) (h : Heap) =>
      if (decide (s_2.2 < ((v.n : Int)))) = true then
      idxK v s_2.2 (sizeOfT Try.prog T.sl_uint8) (fun (a_4 : Addr) =>
      loadK .slice h ((some a_4)) (fun (v5 : Sl) =>
      callK Try.prog .bool F.tags_Mark #[.slice v5.a v5.n v5.c] (fun (v6 : Bool) h =>
      if (!v6) = true then
      idxK v s_2.2 (sizeOfT Try.prog T.sl_uint8) (fun (a_7 : Addr) =>
      loadK .slice h ((some a_7)) (fun (v8 : Sl) =>
      newSlK h 1 #[.slice v8.a v8.n v8.c] T.sl_uint8 (fun v9 h =>
      callK Try.prog .agg F.tags_Maker_Sum #[.pointer (some ⟨p, 0, none⟩), .slice v9.a v9.n v9.c] (fun (v10 : Array Value) h =>
      opK Try.prog .slice (Instr.buildSlice T.sl_api_Tag 1 #[(0, (.agg v10))]) (fun (v11 : Sl) h =>
      opK Try.prog .slice (Builtin.append_ #[T.sl_api_Tag, T.sl_api_Tag] T.sl_api_Tag #[.slice s_2.1.a s_2.1.n s_2.1.c, .slice v11.a v11.n v11.c]) (fun (v12 : Sl) h =>
      X (v12, IntKind.i64.wrap (s_2.2 + 1)) h) h) h) h)))
      else
      X (s_2.1, IntKind.i64.wrap (s_2.2 + 1)) h) h))
      else K s_2 h) (s0, 0) q0.h := by
  have hn := hr.len
  refine loopW_rule (fun st h' => ∃ (i : Nat) (s : Sl) (q : GH), i ≤ xss.length ∧ st = (s, (i : Int)) ∧ h' = q.h ∧ Mv [1, 2, 3, 4, 5] q0 q ∧ OwnF T.api_Tag ShTag q 3 s (out ++ (asks22 A (xss.take i)).1) ∧ MakC q 1 2 p false [] (asks22 A (xss.take i)).2) (fun st => xss.length - st.2.toNat)
    ⟨0, s0, q0, by omega, rfl, rfl, Mv.refl _ _, by simpa [asks22] using o, by simpa [asks22] using x⟩ ?_
  rintro X _ _ ⟨i, s, q, hi, rfl, rfl, m, o, x⟩ hX
  have hlen := asks22_len (xss.take i) A
  have hsn := o.len
  rw [List.length_append] at hsn
  rw [List.length_take] at hlen
  try dsimp only
  by_cases hlt : i < xss.length
  · rw [if_pos (by simp; omega)]
    have hmem := List.getElem_mem hlt
    have hsz := hxl _ hmem
    have hsnoc := asks22_snoc xss[i] (xss.take i) A
    rw [← List.take_succ_eq_append_getElem hlt] at hsnoc
    refine (hr.mv m (by simp)).idx (by kernel_rfl) hlt fun s1 r1 c1 => ?_
    refine tagsMark_spec (mx.mv m (by simp)) r1 c1 (hby _ hmem) (by omega) fun q2 m2 => ⟨_, rfl, ?_⟩
    try dsimp only
    replace m := m.step m2 (by simp)
    replace o := o.mv m2 (by simp)
    replace x := x.mv m2 (by simp) (by simp)
    by_cases hm : markT xss[i] = true
    · rw [if_neg (by simp [hm]), wrapSucc (by omega)]
      rw [if_pos hm] at hsnoc
      exact hX _ _ ⟨i + 1, s, q2, by omega, rfl, rfl, m, by rw [hsnoc]; exact o, by rw [hsnoc]; exact x⟩ (by simp; omega)
    · rw [if_pos (by simp [hm])]
      rw [if_neg hm] at hsnoc
      refine (hr.mv m (by simp)).idx (by kernel_rfl) hlt fun s3 r3 c3 => ?_
      refine newSl_C q2 0 rfl fun s4 q4 m4 o4 hn4 hc4 => ?_
      replace m := m.step m4 (by simp)
      replace o := o.mv m4 (by simp)
      replace x := x.mv m4 (by simp) (by simp)
      have rr : RowsC q4 0 s4 [xss[i]] := RowsC.one o4.rd (r3.mv m4 (by simp)) c3
      refine sumTab_spec (by decide) x s4 _ rr (by simp [total]; omega) (by simp) fun q5 m5 x5 => ⟨_, rfl, ?_⟩
      replace m := m.step m5 (by simp)
      replace o := o.mv m5 (by simp)
      rw [show [xss[i]].flatten = xss[i] from by simp] at x5 ⊢
      try dsimp only
      rw [show ∀ t : List Int, tagA t = ⟨ShTag.enc t⟩ from fun t => by rw [encTag]]
      refine mkTag_C q5 4 (okNumT _) fun s6 q6 m6 o6 hc6 => ?_
      replace m := m.step m6 (by simp)
      replace o := o.mv m6 (by simp)
      replace x5 := x5.mv m6 (by simp) (by simp)
      refine appendTags_C o (o6.slc rfl (by simp)) (by have := o6.len; simp at this; omega) fun s7 q7 m7 o7 => ?_
      replace m := m.step m7 (by simp)
      replace x5 := x5.mv m7 (by simp) (by simp)
      rw [wrapSucc (by omega)]
      exact hX _ _ ⟨i + 1, s7, q7, by omega, rfl, rfl, m, by rw [hsnoc]; dsimp only; rw [← List.append_assoc]; exact o7, by rw [hsnoc]; exact x5⟩ (by simp; omega)
  · rw [if_neg (by simp; omega)]
    have hi' : i = xss.length := by omega
    subst hi'
    rw [List.take_length] at o x
    exact H s _ q m o x

set_option maxHeartbeats 1000000 in
theorem view22_spec (g : GH) {k d1 d2 d3 : Nat} (mx : MaxC g k) (va vb vr : Sl) (ahead behind rows : List (List Int)) (ra : RowsC g d1 va ahead) (rb : RowsC g d2 vb behind) (rr : RowsC g d3 vr rows)
    (ba : ∀ xs ∈ ahead, ∀ x ∈ xs, isByte x) (bb : ∀ xs ∈ behind, ∀ x ∈ xs, isByte x) (br : ∀ xs ∈ rows, ∀ x ∈ xs, isByte x) (la : total ahead + ahead.length ≤ 3000) (lb : total behind + behind.length ≤ 3000) (lr : total rows + rows.length ≤ 3000)
    (draws : Int) (hd : -9223372036854775808 ≤ draws ∧ draws ≤ 9223372036854775807) (c : Nat) {R : Value → Heap → Prop}
    (H : ∀ (s : Sl) (g' : GH), Mv [] g g' → OwnF T.api_Tag ShTag g' c s (run22 ahead behind draws rows) → (run22 ahead behind draws rows).length ≤ 100000 → R (.tuple #[.slice s.a s.n s.c, .bool true]) g'.h) :
    HC Try.prog F.law22_view #[.slice va.a va.n va.c, .slice vb.a vb.n vb.c, .int .i64 draws, .slice vr.a vr.n vr.c] R g.h := by
  refine law22_view.calls (ahead0 := va) (behind1 := vb) (rows3 := vr) ?_
  unfold law22_view.body
  have small : ∀ l : List (List Int), total l + l.length ≤ 3000 → ∀ x ∈ l, x.length ≤ 3000 := fun l hl x hx => by
    have : x.length ≤ total l := by
      unfold total
      rw [List.length_flatten]
      exact le_of_mem_sum (List.mem_map.2 ⟨_, hx, rfl⟩)
    omega
  have m := Mv.refl [1, 2, 3, 4, 5, 6, 7] g.base
  have mx0 : ∀ q : GH, Mv [1, 2, 3, 4, 5, 6, 7] g.base q → MaxC q 0 := fun q m => mx.base.mv m (by simp)
  have run := run22 ahead behind draws rows
  have hlen : (run22 ahead behind draws rows).length ≤ 100000 := by
    unfold run22
    have h1 := asks22_len ahead []
    have h2 := asks22_len behind (coverT false (askT (asks22 [] ahead).2 (thD draws)).2 (numT ((askT (asks22 [] ahead).2 (thD draws)).1 : Int)) rows).2.2
    rw [List.length_append, List.length_cons]
    omega
  refine makNew_spec g.base 1 2 false ⟨none, 0, 0⟩ [] (RdC.nil _ _ 0 _ _) (by simp) (by simp) fun p q1 m1 x => ⟨_, rfl, ?_⟩
  replace m := m.step m1 (by simp)
  try dsimp only
  refine asks_loop (mx0 q1 m) va ahead (ra.arg m (by simp)) ba (fun x hx => by have := small ahead la x hx; omega) (by omega) ⟨none, 0, 0⟩ [] (OwnF.nil _ _ _ _) (by simp) [] x fun s2 _ q2 m2 o2 x2 => ?_
  try dsimp only
  replace m := m.step m2 (by simp)
  rw [List.nil_append] at o2
  refine drawTab_spec (by decide) x2 draws hd fun q3 m3 x3 => ⟨_, rfl, ?_⟩
  replace m := m.step m3 (by simp)
  replace o2 := o2.mv m3 (by simp)
  try dsimp only
  rw [zTag]
  have ln := numT_length ((askT (asks22 [] ahead).2 (thD draws)).1 : Int)
  refine newStore_C q3 6 (by rw [szTag]; simp [ln]) (by rw [szTag]; simp) (fun v hv => oneBy _ v hv) fun pn q4 m4 bn => ?_
  replace m := m.step m4 (by simp)
  replace o2 := o2.mv m4 (by simp)
  replace x3 := x3.mv m4 (by simp) (by simp)
  refine loadAgg_whole bn (tagA_size ln) ?_
  refine cover_spec (by decide) x3 _ (okNumT _) vr rows (rr.arg m (by simp)) br (fun x hx => by have := small rows lr x hx; omega) (by omega) fun q5 m5 x5 => ⟨(_, _), rfl, ?_⟩
  replace m := m.step m5 (by simp)
  replace o2 := o2.mv m5 (by simp)
  try dsimp only
  have hct := coverT_tag false (askT (asks22 [] ahead).2 (thD draws)).2 (numT ((askT (asks22 [] ahead).2 (thD draws)).1 : Int)) rows
  have herr : (coverT false (askT (asks22 [] ahead).2 (thD draws)).2 (numT ((askT (asks22 [] ahead).2 (thD draws)).1 : Int)) rows).2.1 = 0 := by
    unfold coverT
    rw [if_pos (by simp only [bodyB22, List.length_append, rowsB_len, ln]; omega)]
  have hrun : run22 ahead behind draws rows = (asks22 [] ahead).1 ++ ((coverT false (askT (asks22 [] ahead).2 (thD draws)).2 (numT ((askT (asks22 [] ahead).2 (thD draws)).1 : Int)) rows).1 :: (asks22 (coverT false (askT (asks22 [] ahead).2 (thD draws)).2 (numT ((askT (asks22 [] ahead).2 (thD draws)).1 : Int)) rows).2.2 behind).1) := rfl
  generalize coverT false (askT (asks22 [] ahead).2 (thD draws)).2 (numT ((askT (asks22 [] ahead).2 (thD draws)).1 : Int)) rows = cv at x5 hct herr hrun ⊢
  refine newStore_C q5 7 (by rw [szTag]; simp [hct.1]) (by rw [szTag]; simp) (fun v hv => oneBy _ v hv) fun pt q6 m6 bt => ?_
  replace m := m.step m6 (by simp)
  replace o2 := o2.mv m6 (by simp)
  replace x5 := x5.mv m6 (by simp) (by simp)
  refine loadAgg_whole bt (tagA_size hct.1) ?_
  rw [show (⟨cv.1.map byV⟩ : Array Value) = ⟨ShTag.enc cv.1⟩ from by rw [encTag]]
  refine mkTag_C q6 4 (okTag hct.1 hct.2) fun s7 q7 m7 o7 hc7 => ?_
  replace m := m.step m7 (by simp)
  replace o2 := o2.mv m7 (by simp)
  replace x5 := x5.mv m7 (by simp) (by simp)
  have h2len := asks22_len ahead []
  refine appendTags_C o2 (o7.slc rfl (by simp)) (by have := o7.len; have := o2.len; simp at *; omega) fun s8 q8 m8 o8 => ?_
  replace m := m.step m8 (by simp)
  replace x5 := x5.mv m8 (by simp) (by simp)
  refine asks_loop (mx0 q8 m) vb behind (rb.arg m (by simp)) bb (fun x hx => by have := small behind lb x hx; omega) (by omega) s8 _ o8 (by simp; omega) cv.2.2 x5 fun s9 _ q9 m9 o9 x9 => ?_
  try dsimp only
  replace m := m.step m9 (by simp)
  have hz : (cv.2.1 == (0 : Int)) = true := by rw [herr]; rfl
  show R (.tuple #[.slice s9.a s9.n s9.c, .bool (cv.2.1 == (0 : Int))]) q9.h
  rw [hz]
  refine H s9 (g.via q9 fun _ => c) (m.via (by simp) _) ?_ hlen
  rw [hrun]
  have := o9.via m (by simp) (fun _ => c)
  rw [List.append_assoc] at this
  exact this

set_option maxHeartbeats 1000000 in
theorem CommitHides_spec (g : GH) (mx : MaxC g 0) (va vb vx vy : Sl) (ahead behind a b : List (List Int)) (ha : SlC g 0 (.sl (.int .u8)) va ahead) (hb : SlC g 0 (.sl (.int .u8)) vb behind) (hx : SlC g 0 (.sl (.int .u8)) vx a) (hy : SlC g 0 (.sl (.int .u8)) vy b)
    (draws : Int) (hd : -9223372036854775808 ≤ draws ∧ draws ≤ 9223372036854775807) {R : Value → Heap → Prop} (H : ∀ g' : GH, Mv [] g g' → R (.bool true) g'.h) :
    HC Try.prog F.law22_CommitHides #[.slice va.a va.n va.c, .slice vb.a vb.n vb.c, .int .i64 draws, .slice vx.a vx.n vx.c, .slice vy.a vy.n vy.c] R g.h := by
  refine law22_CommitHides.calls (ahead0 := va) (behind1 := vb) (a3 := vx) (b4 := vy) ?_
  unfold law22_CommitHides.body
  obtain ⟨ra, ba, sa⟩ := ha.rows
  obtain ⟨rb, bb, sb⟩ := hb.rows
  obtain ⟨rx, bx, sx⟩ := hx.rows
  obtain ⟨ry, by', sy⟩ := hy.rows
  have la := ha.small
  have lb := hb.small
  have lx := hx.small
  have ly := hy.small
  refine awake22_spec g mx fun q1 m1 => ⟨_, rfl, ?_⟩
  try dsimp only
  rw [if_neg (by simp)]
  replace ra := ra.mv m1 (by simp)
  replace rb := rb.mv m1 (by simp)
  replace rx := rx.mv m1 (by simp)
  replace ry := ry.mv m1 (by simp)
  replace mx := mx.mv m1 (by simp)
  refine size22_spec va ahead ra sa la fun n1 b1 h1 => ⟨_, rfl, ?_⟩
  refine size22_spec vb behind rb sb lb fun n2 b2 h2 => ⟨_, rfl, ?_⟩
  refine size22_spec vx a rx sx lx fun n3 b3 h3 => ⟨_, rfl, ?_⟩
  refine size22_spec vy b ry sy ly fun n4 b4 h4 => ⟨_, rfl, ?_⟩
  try dsimp only
  rw [wrapI64 (n := (n1 : Int) + (n2 : Int)) (by omega) (by omega), wrapI64 (n := (n1 : Int) + (n2 : Int) + (n3 : Int)) (by omega) (by omega), wrapI64 (by omega) (by omega)]
  by_cases hbig : (n1 : Int) + (n2 : Int) + (n3 : Int) + (n4 : Int) > 3000
  · rw [if_pos (by simpa using hbig)]
    exact H q1 m1
  rw [if_neg (by simpa using hbig)]
  have t1 := h1 (by omega)
  have t2 := h2 (by omega)
  have t3 := h3 (by omega)
  have t4 := h4 (by omega)
  refine view22_spec q1 mx va vb vx ahead behind a ra rb rx ba bb bx (by omega) (by omega) (by omega) draws hd 1 fun s2 q2 m2 o2 l2 => ⟨(_, _), rfl, ?_⟩
  refine view22_spec q2 (mx.mv m2 (by simp)) va vb vy ahead behind b (ra.mv m2 (by simp)) (rb.mv m2 (by simp)) (ry.mv m2 (by simp)) ba bb by' (by omega) (by omega) (by omega) draws hd 2 fun s3 q3 m3 o3 l3 => ⟨(_, _), rfl, ?_⟩
  try dsimp only
  rw [if_pos rfl, if_pos rfl]
  refine SameTags_spec ((o2.mv m3 (by simp)).slc rfl (by omega)) (o3.slc rfl (by omega)) ⟨_, rfl, ?_⟩
  rw [decide_eq_true (run22_same ahead behind draws a b ba bb (rowsB_byte bx) (rowsB_byte by') (by rw [rowsB_len]; omega) (by rw [rowsB_len]; omega))]
  exact H q3 (((m1.step m2 (by simp)).step m3 (by simp)))

theorem CommitHides_walk {h : Heap} (mx : MaxC ⟨h, fun _ => 0⟩ 0) (a1 : Option Addr) (l1 c1 : Nat) (x1 : List (List Int)) (w1 : Lay h (.sl (.sl (.int .u8))) x1 [.slice a1 l1 c1]) (a2 : Option Addr) (l2 c2 : Nat) (x2 : List (List Int)) (w2 : Lay h (.sl (.sl (.int .u8))) x2 [.slice a2 l2 c2])
    (draws : Int) (hd : (Lit.int IntKind.i64 draws).wf = true) (a3 : Option Addr) (l3 c3 : Nat) (x3 : List (List Int)) (w3 : Lay h (.sl (.sl (.int .u8))) x3 [.slice a3 l3 c3]) (a4 : Option Addr) (l4 c4 : Nat) (x4 : List (List Int)) (w4 : Lay h (.sl (.sl (.int .u8))) x4 [.slice a4 l4 c4]) :
    HC Try.prog F.law22_CommitHides #[.slice a1 l1 c1, .slice a2 l2 c2, .int .i64 draws, .slice a3 l3 c3, .slice a4 l4 c4] (fun v h' => v = .bool true ∧ Ext h h') h := by
  refine CommitHides_spec ⟨h, fun _ => 0⟩ mx ⟨a1, l1, c1⟩ ⟨a2, l2, c2⟩ ⟨a3, l3, c3⟩ ⟨a4, l4, c4⟩ x1 x2 x3 x4 (w1.arg (Mv.refl [] _) (by simp)) (w2.arg (Mv.refl [] _) (by simp)) (w3.arg (Mv.refl [] _) (by simp)) (w4.arg (Mv.refl [] _) (by simp)) draws (by simp only [Lit.wf, Bool.and_eq_true, decide_eq_true_eq] at hd; exact hd) fun g' m => ⟨rfl, m.ext (by simp)⟩

end Go.Proofs.Ythaehcldmhldjaa
