/-
  Covers.
-/
import Derived.Test.YtijipdaofojbiaaKCodec
import Derived.Test.YtijipdaofojbiaaKThings
import Derived.Test.YtijipdaofojbiaaKMark
import Derived.Test.YtijipdaofojbiaaKFlat
set_option linter.unusedSimpArgs false
set_option linter.unusedVariables false
namespace Go.Proofs.Ytijipdaofojbiaa
open Go Go.Ev

def sum2 (real : Bool) (asked : List ShThing.T) (bs : List Int) : List Int × List ShThing.T := if real = true then (shaB bs, asked) else (numT ((askT asked (thS bs)).1 : Int), (askT asked (thS bs)).2)
theorem sum2_tag (real : Bool) (asked : List ShThing.T) (bs : List Int) : (sum2 real asked bs).1.length = 32 ∧ ∀ x ∈ (sum2 real asked bs).1, isByte x := by
  unfold sum2
  split
  · exact ⟨shaB_length _, shaB_byte _⟩
  · exact ⟨numT_length _, numT_byte _⟩
theorem makSum2_spec {g : GH} {c k p d : Nat} (hck : ¬ c = k) {real : Bool} {seed : List Int} {asked : List ShThing.T} (x : MakC g c k p real seed asked) (rows : Sl) (xss : List (List Int)) (hr : RowsC g d rows xss) (hby : ∀ xs ∈ xss, ∀ x ∈ xs, isByte x) (ht : total xss ≤ 80000000) (hl : xss.length ≤ 1000000000)
    {R : Value → Heap → Prop} (H : ∀ g' : GH, Mv [k] g g' → MakC g' c k p real seed (sum2 real asked xss.flatten).2 → R (.agg (tagA (sum2 real asked xss.flatten).1)) g'.h) :
    HC Try.prog F.tags_Maker_Sum #[.pointer (some ⟨p, 0, none⟩), .slice rows.a rows.n rows.c] R g.h := by
  cases real
  · exact sumTab_spec hck x rows xss hr ht hl H
  · exact sumReal_spec x rows xss hr hby ht (by omega) fun g' m => H g' (m.mono (by simp)) (x.mv m (by simp) (by simp))

def hideB : List Int := [104, 105, 100, 101]
def rowsB (rows : List (List Int)) : List Int := (rows.map runB).flatten
def bodyB22 (nonce : List Int) (rows : List (List Int)) : List Int := rowsB rows ++ nonce
theorem putRuns (xs : List (List Int)) : ∀ bs : List Int, bs.length ≤ 65536 → (bs.length + (rowsB xs).length ≤ 65536 → putAll yes runB (0, bs) xs = (0, bs ++ rowsB xs)) ∧ (¬ bs.length + (rowsB xs).length ≤ 65536 → (putAll yes runB (0, bs) xs).1 = 3) := by
  induction xs with
  | nil => intro bs hb; exact ⟨fun _ => by simp [rowsB, putAll_nil], fun h => absurd (by simpa [rowsB] using hb) h⟩
  | cons x xs ih =>
    intro bs hb
    have e : rowsB (x :: xs) = runB x ++ rowsB xs := by simp [rowsB]
    rw [e, List.length_append, putAll_cons]
    unfold putStep
    rw [if_neg (by simp), if_neg (by simp [yes])]
    dsimp only
    by_cases hbig : 65536 < bs.length + (runB x).length
    · rw [if_pos hbig]
      exact ⟨fun h => by omega, fun _ => by rw [putAll_err (by simp)]⟩
    · rw [if_neg hbig]
      have := ih (bs ++ runB x) (by simp; omega)
      rw [List.length_append, List.append_assoc] at this
      exact ⟨fun h => this.1 (by omega), fun h => this.2 (by omega)⟩
/-- Rows and a nonce behind: they are written, or too long. -/
theorem putBody (nonce : List Int) (hn : nonce.length = 32) (rows : List (List Int)) :
    ((bodyB22 nonce rows).length ≤ 65536 → putAll yes tagB (putAll yes runB (0, []) rows) [nonce] = (0, bodyB22 nonce rows)) ∧ (¬ (bodyB22 nonce rows).length ≤ 65536 → (putAll yes tagB (putAll yes runB (0, []) rows) [nonce]).1 = 3) := by
  have h := putRuns rows [] (by simp)
  have hb : (bodyB22 nonce rows).length = (rowsB rows).length + 32 := by simp [bodyB22, hn]
  rw [hb]
  simp only [List.length_nil, Nat.zero_add, List.nil_append] at h
  by_cases h1 : (rowsB rows).length ≤ 65536
  · rw [h.1 h1, putAll_cons, putAll_nil]
    unfold putStep tagB
    rw [if_neg (by simp), if_neg (by simp [yes])]
    dsimp only
    rw [hn]
    by_cases h2 : 65536 < (rowsB rows).length + 32
    · rw [if_pos h2]
      exact ⟨fun h => by omega, fun _ => rfl⟩
    · rw [if_neg h2]
      exact ⟨fun _ => rfl, fun h => by omega⟩
  · have e := h.2 h1
    refine ⟨fun h => by omega, fun _ => ?_⟩
    rw [putAll_cons, putAll_nil]
    unfold putStep
    rw [if_pos (by rw [e]; decide)]
    exact e

def coverT (real : Bool) (asked : List ShThing.T) (nonce : List Int) (rows : List (List Int)) : List Int × Int × List ShThing.T :=
  if (bodyB22 nonce rows).length ≤ 65536 then ((sum2 real asked (hideB ++ bodyB22 nonce rows)).1, 0, (sum2 real asked (hideB ++ bodyB22 nonce rows)).2) else (zero32, 3, asked)
theorem coverT_tag (real : Bool) (asked : List ShThing.T) (nonce : List Int) (rows : List (List Int)) : (coverT real asked nonce rows).1.length = 32 ∧ ∀ x ∈ (coverT real asked nonce rows).1, isByte x := by
  unfold coverT
  split
  · exact sum2_tag _ _ _
  · exact ⟨by simp [zero32], by simp [zero32, isByte]⟩

set_option maxHeartbeats 1000000 in
theorem textRows_spec {g : GH} {kp kb d p : Nat} (c : Nat) (hk : kp ≠ kb) (hdp : d ≠ kp) (hdb : d ≠ kb) (w : WrC g kp kb p 0 []) (nonce : List Int) (okn : ShTag.ok nonce) (v : Sl) (rows : List (List Int)) (hr : RowsC g d v rows) (hxl : ∀ x ∈ rows, x.length ≤ 90000000) (hl : rows.length ≤ 1000000000) {R : Value → Heap → Prop}
    (H1 : (bodyB22 nonce rows).length ≤ 65536 → ∀ (s : Sl) (g' : GH), Mv [kp, kb] g g' → OwnC T.uint8 1 g' c s ((bodyB22 nonce rows).map byV) → R (.tuple #[.slice s.a s.n s.c, .int .i64 0]) g'.h)
    (H2 : ¬ (bodyB22 nonce rows).length ≤ 65536 → ∀ g' : GH, Mv [kp, kb] g g' → R (.tuple #[.slice none 0 0, .int .i64 3]) g'.h) :
    HC Try.prog F.commit_text_rows #[.agg #[.pointer (some ⟨p, 0, none⟩)], .agg (tagA nonce), .slice v.a v.n v.c] R g.h := by
  refine commit_text_rows.calls (rows2 := v) ?_
  unfold commit_text_rows.body
  have htb := okTagB okn
  obtain ⟨y, hy, hyn⟩ := fresh_exists g [kp, kb, d, c]
  obtain ⟨y2, hy2, hyn2⟩ := fresh_exists g [kp, kb, d, c, y]
  obtain ⟨y3, hy3, hyn3⟩ := fresh_exists g [kp, kb, d, c, y, y2]
  simp only [List.mem_cons, List.mem_nil_iff, or_false, not_or] at hyn hyn2 hyn3
  have m := Mv.refl [kp, kb, y, y2, y3] g
  refine new_C g y fun pt q1 m1 bt => ?_
  replace m := m.step m1 (by simp)
  replace w := w.mv m1 (by simp) (by simp)
  replace hr := hr.mv m1 (by simp)
  refine new_C q1 y2 fun pn q2 m2 bn => ?_
  replace m := m.step m2 (by simp)
  replace w := w.mv m2 (by simp) (by simp)
  replace hr := hr.mv m2 (by simp)
  replace bt := bt.mv m2 (by simp)
  simp only [fldK_some]
  try dsimp only
  rw [loadK_C bt]
  refine ⟨some ⟨p, 0, none⟩, rfl, ?_⟩
  refine wRun_spec hk hdp hdb w v rows hr hxl hl fun q3 m3 w3 => ⟨_, rfl, ?_⟩
  replace m := m.step m3 (by simp)
  replace bt := bt.mv m3 (by simp [hyn.1, hyn.2.1])
  replace bn := bn.mv m3 (by simp [hyn2.1, hyn2.2.1])
  try dsimp only
  rw [loadK_C bt]
  refine ⟨some ⟨p, 0, none⟩, rfl, ?_⟩
  refine loadAgg_whole bn (tagA_size htb.1) ?_
  rw [show tagA nonce = ⟨ShTag.enc nonce⟩ from by rw [encTag]]
  refine mkTag_C q3 y3 okn fun s4 q4 m4 o4 _ => ?_
  replace m := m.step m4 (by simp)
  replace w3 := w3.mv m4 (by simp) (by simp)
  replace bt := bt.mv m4 (by simp)
  refine wTag_spec hk hyn3.1 hyn3.2.1 w3 s4 [nonce] (o4.slc rfl (by simp)) (by simp) fun q5 m5 w5 => ⟨_, rfl, ?_⟩
  replace m := m.step m5 (by simp)
  replace bt := bt.mv m5 (by simp [hyn.1, hyn.2.1])
  try dsimp only
  rw [loadK_C bt]
  refine ⟨some ⟨p, 0, none⟩, rfl, ?_⟩
  have hpb := putBody nonce htb.1 rows
  have hre : ∀ j ∈ [kp, kb, y, y2, y3], j ∈ [kp, kb] ∨ Fresh g j := by
    intro j hj
    simp only [List.mem_cons, List.mem_nil_iff, or_false] at hj
    rcases hj with rfl | rfl | rfl | rfl | rfl
    · exact .inl (by simp)
    · exact .inl (by simp)
    · exact .inr hy
    · exact .inr hy2
    · exact .inr hy3
  have w5' : WrC q5 kp kb p (putAll yes tagB (putAll yes runB (0, []) rows) [nonce]).1 (putAll yes tagB (putAll yes runB (0, []) rows) [nonce]).2 := w5
  clear w5
  by_cases hb : (bodyB22 nonce rows).length ≤ 65536
  · rw [hpb.1 hb] at w5'
    refine wOut_spec c w5' (fun _ s q6 m6 o6 => ⟨(s, 0), rfl, ?_⟩) (fun h => absurd rfl h)
    have M := m.step m6 (by simp)
    exact H1 hb s (g.via q6 id) (M.re id hre) (o6.re (φ := id) M (.inl rfl))
  · have e := hpb.2 hb
    refine wOut_spec c w5' (fun h => by rw [e] at h; cases h) (fun _ => ⟨(⟨none, 0, 0⟩, 3), by rw [e]; rfl, ?_⟩)
    exact H2 hb (g.via q5 id) (m.re id hre)

set_option maxHeartbeats 1000000 in
theorem cover_spec {g : GH} {c k p d : Nat} (hck : ¬ c = k) {real : Bool} {seed : List Int} {asked : List ShThing.T} (x : MakC g c k p real seed asked) (nonce : List Int) (okn : ShTag.ok nonce) (v : Sl) (rows : List (List Int)) (hr : RowsC g d v rows) (hby : ∀ xs ∈ rows, ∀ x ∈ xs, isByte x) (hxl : ∀ x ∈ rows, x.length ≤ 90000000) (hl : rows.length ≤ 1000000000) {R : Value → Heap → Prop}
    (H : ∀ g' : GH, Mv [k] g g' → MakC g' c k p real seed (coverT real asked nonce rows).2.2 → R (.tuple #[.agg (tagA (coverT real asked nonce rows).1), .int .i64 (coverT real asked nonce rows).2.1]) g'.h) :
    HC Try.prog F.commit_Cover #[.pointer (some ⟨p, 0, none⟩), .agg (tagA nonce), .slice v.a v.n v.c] R g.h := by
  refine commit_Cover.calls (rows2 := v) ?_
  unfold commit_Cover.body
  have htb := okTagB okn
  obtain ⟨y1, hy1, n1⟩ := fresh_exists g [c, k, d]
  obtain ⟨y2, hy2, n2⟩ := fresh_exists g [c, k, d, y1]
  obtain ⟨y3, hy3, n3⟩ := fresh_exists g [c, k, d, y1, y2]
  obtain ⟨y4, hy4, n4⟩ := fresh_exists g [c, k, d, y1, y2, y3]
  obtain ⟨y5, hy5, n5⟩ := fresh_exists g [c, k, d, y1, y2, y3, y4]
  simp only [List.mem_cons, List.mem_nil_iff, or_false, not_or] at n1 n2 n3 n4 n5
  have m := Mv.refl [k, y1, y2, y3, y4, y5] g
  refine new_C g y1 fun pn q1 e1 bn => ?_
  replace m := m.step e1 (by simp)
  replace x := x.mv e1 (by simp) (by simp)
  replace hr := hr.mv e1 (by simp)
  rw [zTag]
  refine new_C q1 y2 fun pt q2 e2 bt => ?_
  replace m := m.step e2 (by simp)
  replace x := x.mv e2 (by simp) (by simp)
  replace hr := hr.mv e2 (by simp)
  replace bn := bn.mv e2 (by simp)
  refine makCopy_spec x y1 y1 fun p' q3 e3 _ => ⟨_, rfl, ?_⟩
  replace m := m.step e3 (by simp)
  replace x := x.mv e3 (by simp) (by simp)
  replace hr := hr.mv e3 (by simp)
  replace bn := bn.mv e3 (by simp)
  replace bt := bt.mv e3 (by simp)
  try dsimp only
  rw [if_neg (by simp)]
  refine loadAgg_whole bn (tagA_size htb.1) ?_
  refine codecNew_spec q3 y3 y4 fun pw q4 e4 w => ⟨_, rfl, ?_⟩
  replace m := m.step e4 (by simp)
  replace x := x.mv e4 (by simp) (by simp)
  replace hr := hr.mv e4 (by simp)
  replace bn := bn.mv e4 (by simp)
  replace bt := bt.mv e4 (by simp)
  refine ⟨stillAgg_whole bn (tagA_size htb.1), ?_⟩
  refine ⟨#[.pointer (some ⟨pw, 0, none⟩)], fun w => by kernel_rfl, ?_⟩
  have hre : ∀ j ∈ [k, y1, y2, y3, y4, y5], j ∈ [k] ∨ Fresh g j := by
    intro j hj
    simp only [List.mem_cons, List.mem_nil_iff, or_false] at hj
    rcases hj with rfl | rfl | rfl | rfl | rfl | rfl
    · exact .inl (by simp)
    · exact .inr hy1
    · exact .inr hy2
    · exact .inr hy3
    · exact .inr hy4
    · exact .inr hy5
  refine textRows_spec y5 (Ne.symm n4.2.2.2.2.2) (Ne.symm n3.2.2.1) (Ne.symm n4.2.2.1) w nonce okn v rows hr hxl hl (fun hb s q5 e5 o5 => ⟨(s, 0), rfl, ?_⟩) (fun hb q5 e5 => ⟨(⟨none, 0, 0⟩, 3), rfl, ?_⟩)
  · replace m := m.step e5 (by simp)
    replace x := x.mv e5 (by simp [Ne.symm n3.1, Ne.symm n4.1]) (by simp [Ne.symm n3.2.1, Ne.symm n4.2.1])
    replace bt := bt.mv e5 (by simp [Ne.symm n3.2.2.2.2, Ne.symm n4.2.2.2.2.1])
    dsimp only
    try dsimp only
    rw [if_neg (by simp)]
    refine newSl_C q5 y5 rfl fun s6 q6 e6 o6 hn6 hc6 => ?_
    replace m := m.step e6 (by simp)
    replace x := x.mv e6 (by simp) (by simp)
    replace bt := bt.mv e6 (by simp)
    have o5' := o5.mv e6 (by simp)
    refine convRd (e := T.uint8) (by kernel_rfl) (by kernel_rfl) o6 (by simp) fun q7 e7 r7 k7 => ?_
    replace m := m.step e7 (by simp)
    replace x := x.mv e7 (by simp [Ne.symm n5.1]) (by simp [Ne.symm n5.2.1])
    replace bt := bt.mv e7 (by simp [Ne.symm n5.2.2.2.2.1])
    have r5 := k7 _ _ _ o5'.rd
    refine newSl_C q7 y5 rfl fun s8 q8 e8 o8 hn8 hc8 => ?_
    replace m := m.step e8 (by simp)
    replace x := x.mv e8 (by simp) (by simp)
    replace bt := bt.mv e8 (by simp)
    have hcap5 := o5.cap
    have rr : RowsC q8 y5 s8 [hideB, bodyB22 nonce rows] := RowsC.two (a := s6) (b := s) o8.rd (r7.mv e8 (by simp)) (by omega) (r5.mv e8 (by simp)) hcap5
    have hfl : [hideB, bodyB22 nonce rows].flatten = hideB ++ bodyB22 nonce rows := by simp
    have hbb : ∀ z ∈ bodyB22 nonce rows, isByte z := by
      intro z hz
      rcases List.mem_append.1 hz with hz | hz
      · obtain ⟨r, h1, h2⟩ := List.mem_flatten.1 hz
        obtain ⟨xs, h3, rfl⟩ := List.mem_map.1 h1
        rcases List.mem_append.1 h2 with h2 | h2
        · simp only [fourB, List.mem_cons, List.mem_nil_iff, or_false] at h2
          rcases h2 with rfl | rfl | rfl | rfl <;> exact isByte_wrap _
        · exact hby xs h3 z h2
      · exact htb.2 z hz
    refine makSum2_spec hck x s8 _ rr (fun xs hx => by
      simp only [List.mem_cons, List.mem_nil_iff, or_false] at hx
      rcases hx with rfl | rfl
      · simp [hideB, isByte]
      · exact hbb) (by simp [total, hideB]; omega) (by simp) fun q9 e9 x9 => ⟨_, rfl, ?_⟩
    rw [hfl] at x9 ⊢
    replace m := m.step e9 (by simp)
    refine result_C (n := 32) szTag dTag (bt.mv e9 (by simp [n2.2.1])) (by simp) (by simp [(sum2_tag _ _ _).1]) (fun v hv => oneBy _ v hv) fun q10 e10 => ?_
    have M := m.step e10 (by simp)
    have e : coverT real asked nonce rows = ((sum2 real asked (hideB ++ bodyB22 nonce rows)).1, 0, (sum2 real asked (hideB ++ bodyB22 nonce rows)).2) := by unfold coverT; rw [if_pos hb]
    have := H (g.via q10 id) (M.re id hre) (by rw [e]; exact (x9.mv e10 (by simp [Ne.symm n2.1]) (by simp [Ne.symm n2.2.1])).re (φ := id) M (.inl rfl) (.inl rfl))
    rw [e] at this
    exact this
  · replace m := m.step e5 (by simp)
    replace x := x.mv e5 (by simp [Ne.symm n3.1, Ne.symm n4.1]) (by simp [Ne.symm n3.2.1, Ne.symm n4.2.1])
    replace bt := bt.mv e5 (by simp [Ne.symm n3.2.2.2.2, Ne.symm n4.2.2.2.2.1])
    dsimp only
    rw [if_pos (by simp)]
    have bt' : BlkC q5 y2 pt (tagA zero32) T.api_Tag := bt
    refine loadAgg_whole bt' (tagA_size (by simp [zero32])) ?_
    refine result_C (n := 32) szTag dTag bt' (by simp [zero32]) (by simp [zero32]) (fun v hv => oneBy _ v hv) fun q10 e10 => ?_
    have M := m.step e10 (by simp)
    have e : coverT real asked nonce rows = (zero32, 3, asked) := by unfold coverT; rw [if_neg hb]
    have := H (g.via q10 id) (M.re id hre) (by rw [e]; exact (x.mv e10 (by simp [Ne.symm n2.1]) (by simp [Ne.symm n2.2.1])).re (φ := id) M (.inl rfl) (.inl rfl))
    rw [e] at this
    exact this

end Go.Proofs.Ytijipdaofojbiaa
