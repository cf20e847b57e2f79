/-
  The statement JournalStays.
-/
import Derived.Test.YtgongoaiflphaaaKLaw26
set_option linter.unusedSimpArgs false
set_option linter.unusedVariables false
namespace Go.Proofs.Ytgongoaiflphaaa
open Go Go.Ev

theorem Row2C.via2 {K : List Nat} {g q : GH} {kh ke : Nat} {s : Sl} {rs : List (List Int)} (r : Row2C q kh ke s rs) (m : Mv K g.base q) (h1 : kh ≠ 0) (h2 : ke ≠ 0) (φ : Nat → Nat) : Row2C (g.via q φ) (φ kh) (φ ke) s rs := by
  obtain ⟨sls, o, l, h⟩ := r
  exact ⟨sls, o.via m h1 φ, l, fun i sl xs a b => ⟨(h i sl xs a b).1.via m h2 φ, (h i sl xs a b).2⟩⟩
theorem jRecords2_spec {g : GH} {kj kh ke pj pm pd : Nat} {rs : List (List Int)} (j : JrnC g kj kh ke pj pm pd rs) (hl : rs.length ≤ 10000000) (hb : ∀ x ∈ rs, x.length ≤ 1000000000) (c1 c2 : Nat) {R : Value → Heap → Prop} (H : ∀ (s : Sl) (g' : GH), Mv [] g g' → Row2C g' c1 c2 s rs → R (.slice s.a s.n s.c) g'.h) : HC Try.prog F.journal_Journal_Records #[ptrV pj] R g.h := by
  refine journal_Journal_Records.calls ?_
  unfold journal_Journal_Records.body
  refine jLen_spec j ⟨_, rfl, ?_⟩
  try dsimp only
  have j0 : JrnC g.base 0 0 0 pj pm pd rs := by
    obtain ⟨s, b, sls, o, l, h⟩ := j
    exact ⟨s, b.base, sls, o.base, l, fun i sl xs a b => ⟨(h i sl xs a b).1.base, (h i sl xs a b).2⟩⟩
  refine loopW_rule (fun st h' => ∃ (i : Nat) (s : Sl) (q : GH), i ≤ rs.length ∧ st = (s, (i : Int)) ∧ h' = q.h ∧ Mv [1] g.base q ∧ Row2C q 1 2 s (rs.take i)) (fun st => rs.length - st.2.toNat)
    ⟨0, ⟨none, 0, 0⟩, g.base, by omega, rfl, rfl, Mv.refl _ _, Row2C.nil _ _ _⟩ ?_
  rintro X _ _ ⟨i, s, q, hi, rfl, rfl, m, r⟩ hX
  try dsimp only
  by_cases hlt : i < rs.length
  · rw [if_pos (by simp; omega)]
    obtain ⟨sj, b, rj⟩ := j0.mv m (by simp) (by simp) (by simp)
    rw [derefK_some, fldK_some, loadK_C b]
    refine ⟨sj, rfl, ?_⟩
    refine rj.idx (by kernel_rfl) hlt fun sl rsl hsl => ?_
    refine CloneBytes_spec q 2 sl _ rsl.rd (hb _ (List.getElem_mem hlt)) fun s2 q2 m2 o2 => ⟨_, rfl, ?_⟩
    refine push2_C (by decide) (r.mv m2 (by simp) (by simp)) (by rw [List.length_take]; omega) o2.rd o2.cap fun s3 q3 m3 r3 => ?_
    rw [wrapSucc (by omega)]
    exact hX _ _ ⟨i + 1, s3, q3, by omega, rfl, rfl, (m.step m2 (by simp)).step m3 (by simp), by rw [List.take_succ_eq_append_getElem hlt]; exact r3⟩ (by simp; omega)
  · rw [if_neg (by simp; omega)]
    rw [List.take_of_length_le (by omega)] at r
    exact H s (g.via q fun k => if k = 1 then c1 else c2) (m.via (by simp) _) (r.via2 m (by decide) (by decide) _)
theorem append2_C {g : GH} {kh ke y : Nat} {s s2 : Sl} {rs rs2 : List (List Int)} {sls2 : List Sl} (hd : kh ≠ ke) (r : Row2C g kh ke s rs) (hl : rs.length + rs2.length ≤ 100000000) (r2 : RdC 1 g y s2 (sls2.map slV)) (hl2 : sls2.length = rs2.length) (h2 : ∀ (i : Nat) (sl : Sl) (xs : List Int), sls2[i]? = some sl → rs2[i]? = some xs → RdC 1 g ke sl (xs.map byV) ∧ sl.n ≤ sl.c) {K : Sl → Heap → Prop}
    (H : ∀ (s' : Sl) (g' : GH), Mv [kh] g g' → Row2C g' kh ke s' (rs ++ rs2) → K s' g'.h) :
    opK Try.prog .slice (Builtin.append_ #[T.sl_sl_uint8, T.sl_sl_uint8] T.sl_sl_uint8 #[.slice s.a s.n s.c, .slice s2.a s2.n s2.c]) K g.h := by
  obtain ⟨sls, o, l, h⟩ := r
  have hon := o.len
  rw [List.length_map] at hon
  have h2n := r2.len
  rw [List.length_map] at h2n
  refine append_C (e := T.sl_uint8) (e2 := T.sl_uint8) (sz := 1) (by_ := 24) (z := .slice none 0 0) (by kernel_rfl) (by kernel_rfl) (by kernel_rfl) rfl (by omega) o r2.rd (by
    intro v hv
    obtain ⟨z, _, rfl⟩ := List.mem_map.1 hv
    rfl) (by omega) fun s4 q4 m4 o4 hn4 _ => ?_
  refine H s4 q4 m4 ⟨sls ++ sls2, by rw [List.map_append]; exact o4, by simp [l, hl2], ?_⟩
  intro k sl' xs hk hx
  by_cases hki : k < sls.length
  · rw [List.getElem?_append_left hki] at hk
    rw [List.getElem?_append_left (by omega)] at hx
    exact ⟨(h k sl' xs hk hx).1.mv m4 (by simpa using Ne.symm hd), (h k sl' xs hk hx).2⟩
  · rw [List.getElem?_append_right (by omega)] at hk hx
    rw [l] at hk
    exact ⟨(h2 _ sl' xs hk hx).1.mv m4 (by simpa using Ne.symm hd), (h2 _ sl' xs hk hx).2⟩
theorem cntJ_ge : ∀ (l : List (List Int)) (p n : Nat), n ≤ l.length → 36 * n + total (l.take n) ≤ p → n ≤ cntJ p l
  | l, p, 0, _, _ => Nat.zero_le _
  | [], p, n + 1, h, _ => by simp at h
  | b :: l, p, n + 1, h, hp => by
    simp only [List.take_succ_cons, total, List.flatten_cons, List.length_append] at hp
    rw [List.length_cons] at h
    have := cntJ_ge l (p - (36 + b.length)) n (by omega) (by simp only [total]; omega)
    rw [cntJ, if_pos (by omega)]
    omega
theorem total_take_le (l : List (List Int)) (n : Nat) : total (l.take n) ≤ total l := total_le n
/-- The rows without one of two colours. -/
theorem Row2C.mono2 {g : GH} {kh ke : Nat} {s : Sl} {rs : List (List Int)} (r : Row2C g kh ke s rs) : s.n ≤ s.c := by
  obtain ⟨sls, o, _⟩ := r; exact o.cap
theorem sub_rows {g : GH} {c : Nat} {s : Sl} {rs : List (List Int)} (r : RowsC g c s rs) (hc : s.n ≤ s.c) {n : Nat} {i : Int} (hi : i = (n : Int)) (hn : n ≤ rs.length) {K : Sl → Prop} (hK : ∀ s' : Sl, RowsC g c s' (rs.take n) → K s') : sliceK s none (some i) none (sizeOfT Try.prog T.sl_uint8) K := by
  have hsn := r.len
  by_cases hne : rs = []
  · subst hne
    have h0 : n = 0 := by simpa using hn
    subst h0
    exact slice_upto (n := 0) hi (by omega) (hK _ (RowsC.nil _ _ _ _))
  · exact slice_to (r.plain hne) hi (by omega) (hK _ (r.take hn))

theorem foldRows {g : GH} {c : Nat} {s : Sl} {rs : List (List Int)} (r : RowsC g c s rs) (ψ : Nat → Nat) : RowsC (GH.fold g ψ) (ψ c) s rs := by
  obtain ⟨sls, h1, h2, h3⟩ := r
  exact ⟨sls, foldRd h1 _ rfl, h2, fun i sl xs a b => ⟨foldRd (h3 i sl xs a b).1 _ rfl, (h3 i sl xs a b).2⟩⟩
theorem sameR2_spec {g : GH} {kh ke c : Nat} {a b : Sl} {xs : List (List Int)} (ra : Row2C g kh ke a xs) (rb : RowsC g c b xs) (hl : xs.length ≤ 1000000000) (hx : ∀ x ∈ xs, x.length ≤ 1000000000) {R : Value → Heap → Prop} (H : R (.bool true) g.h) :
    HC Try.prog F.kit_SameByteRows #[.slice a.a a.n a.c, .slice b.a b.n b.c] R g.h := by
  have := SameByteRows_spec (g := GH.fold g (psiJ ke kh)) a b xs xs (R := R) ra.fold (foldRows rb _) hl hl hx hx (by rw [decide_eq_true rfl]; exact H)
  exact this
theorem sameR2_spec' {g : GH} {kh ke c : Nat} {a b : Sl} {xs : List (List Int)} (ra : RowsC g c a xs) (rb : Row2C g kh ke b xs) (hl : xs.length ≤ 1000000000) (hx : ∀ x ∈ xs, x.length ≤ 1000000000) {R : Value → Heap → Prop} (H : R (.bool true) g.h) :
    HC Try.prog F.kit_SameByteRows #[.slice a.a a.n a.c, .slice b.a b.n b.c] R g.h := by
  have := SameByteRows_spec (g := GH.fold g (psiJ ke kh)) a b xs xs (R := R) (foldRows ra _) rb.fold hl hl hx hx (by rw [decide_eq_true rfl]; exact H)
  exact this

abbrev FL (kq kr : Nat) : List Nat := 2 :: kq :: kr :: 11 :: 12 :: 13 :: 14 :: 15 :: 16 :: 17 :: 18 :: 19 :: 20 :: 21 :: 22 :: 23 :: SJ

set_option maxHeartbeats 4000000 in
theorem fell_spec {g : GH} {kq kr pm pd s : Nat} (hq : 3 ≤ kq ∧ kq < 11) (hr' : 3 ≤ kr ∧ kr < 11) (hqr : kq ≠ kr) {real : Bool} {seed : List Int} {A : List ShThing.T} (x : MakC g 1 2 pm real seed A) {rs : List (List Int)} (dk : DiskC g kq kr pd s (framesT real A 0 rs).1.flatten) (hK : KnownJ real A 0 rs) (hs : ∀ b ∈ rs, b.length ≤ 4096) (hb : ∀ b ∈ rs, ∀ z ∈ b, isByte z)
    (hlen : rs.length + total rs ≤ 10000) (was : Sl) (rw_ : RowsC g 24 was rs) (hwc : was.n ≤ was.c) (sf : Nat) (hsf : sf ≤ rs.length) (hse : s = 36 * sf + total (rs.take sf)) (keep : Int) {R : Value → Heap → Prop}
    (H : ∀ (A' : List ShThing.T) (g' : GH), Since A A' → Mv (FL kq kr) g g' → MakC g' 1 2 pm real seed A' → R (.bool true) g'.h) :
    HC Try.prog F.law26_fell #[ptrV pm, ptrV pd, .slice was.a was.n was.c, .int .i64 (sf : Int), .int .i64 keep] R g.h := by
  refine law26_fell.calls (was2 := was) ?_
  unfold law26_fell.body
  have okA : okK [kq, kr, 11, 12, 13] := by simp [okK]; omega
  have okB : okK [kq, kr, 14, 15, 16] := by simp [okK]; omega
  have okC : okK [kq, kr, 17, 18, 19] := by simp [okK]; omega
  have m := Mv.refl (FL kq kr) g
  have hfl := framesT_flat real A 0 rs
  refine Fall_spec hqr dk keep fun q1 m1 dk => ⟨_, rfl, ?_⟩
  replace m := m.step m1 (by simp)
  replace x := x.mv m1 (by simp; omega) (by simp; omega)
  replace rw_ := rw_.mv m1 (by simp; omega)
  have hp : s ≤ fallTo s (framesT real A 0 rs).1.flatten.length keep := by unfold fallTo; omega
  generalize fallTo s (framesT real A 0 rs).1.flatten.length keep = p at dk hp
  refine Reopen_spec okA x dk hK hs hb fun pj q2 m2 x dk j => ⟨(_, _), rfl, ?_⟩
  replace m := m.step m2 (by simp)
  replace rw_ := rw_.mv m2 (by simp; omega)
  have hc1 := cntJ_le rs p
  have hc2 := cntJ_ge rs p sf hsf (by omega)
  generalize cntJ p rs = c at dk j hc1 hc2
  have hs' : ∀ b ∈ rs.take c, b.length ≤ 4096 := fun b h => hs b (List.mem_of_mem_take h)
  have hb' : ∀ b ∈ rs.take c, ∀ z ∈ b, isByte z := fun b h => hb b (List.mem_of_mem_take h)
  have hb9 : ∀ b ∈ rs.take c, b.length ≤ 1000000000 := fun b h => by have := hs' b h; omega
  have hK' := hK.take c
  have htk := total_take_le rs c
  have hlc : (rs.take c).length = c := by rw [List.length_take]; omega
  try dsimp only
  refine jRecords2_spec j (by omega) hb9 20 21 fun sv q3 m3 rv => ⟨_, rfl, ?_⟩
  replace m := m.step m3 (by simp)
  replace rw_ := rw_.mv m3 (by simp)
  replace dk := dk.mv m3 (by simp) (by simp)
  replace x := x.mv m3 (by simp) (by simp)
  clear j
  have hvn := rv.len
  rw [hlc] at hvn
  have hwn := rw_.len
  try dsimp only
  rw [if_neg (by simp), if_neg (by simp; omega), if_neg (by simp; omega)]
  refine sub_rows rw_ hwc (n := c) (by rw [hvn]) hc1 fun s4 r4 => ?_
  refine sameR2_spec rv r4 (by omega) hb9 ⟨_, rfl, ?_⟩
  try dsimp only
  rw [if_neg (by simp)]
  refine Synced_spec dk ⟨_, rfl, Len_spec dk ⟨_, rfl, ?_⟩⟩
  try dsimp only
  rw [if_neg (by simp)]
  refine Len_spec dk ⟨_, rfl, ?_⟩
  have dk2 := dk
  rw [← List.take_length (l := (framesT real A 0 (rs.take c)).1.flatten), List.take_length] at dk2
  have hfc := framesT_flat real A 0 (rs.take c)
  rw [hlc] at hfc
  refine Reopen_spec (p := (framesT real A 0 (rs.take c)).1.flatten.length) okB x (by rw [List.take_length]; exact dk) hK' hs' hb' fun pj2 q5 m5 x dk j => ⟨(_, _), rfl, ?_⟩
  have hall := cntJ_all (rs.take c) (framesT real A 0 (rs.take c)).1.flatten.length (by rw [hfc, hlc]; exact Nat.le_refl _)
  rw [hall, List.take_length] at dk j
  replace m := m.step m5 (by simp)
  replace rv := rv.mv m5 (by simp; omega) (by simp; omega)
  clear rw_ r4 dk2
  try dsimp only
  rw [if_neg (by simp)]
  refine Len_spec dk ⟨_, rfl, ?_⟩
  try dsimp only
  rw [if_neg (by simp)]
  refine jRecords_spec j (by omega) hb9 22 fun s6 q6 m6 r6 _ => ⟨_, rfl, ?_⟩
  replace m := m.step m6 (by simp)
  replace dk := dk.mv m6 (by simp) (by simp)
  replace x := x.mv m6 (by simp) (by simp)
  replace j := j.mv m6 (by simp) (by simp) (by simp)
  replace rv := rv.mv m6 (by simp) (by simp)
  refine sameR2_spec' r6 rv (by omega) hb9 ⟨_, rfl, ?_⟩
  try dsimp only
  rw [if_neg (by simp)]
  refine newSl_C q6 23 rfl fun s7 q7 m7 o7 hn7 hc7 => ?_
  refine newSl_C q7 23 rfl fun s8 q8 m8 o8 hn8 hc8 => ?_
  have r8 : RowsC q8 23 s8 [[1], []] := RowsC.two (a := s7) (b := ⟨none, 0, 0⟩) o8.rd (o7.rd.mv m8 (by simp)) (by omega) (RdC.nil _ _ _ _ _) (Nat.le_refl _)
  have e8 : Mv [] q6 q8 := m7.step m8 (by simp)
  replace m := m.step e8 (by simp)
  have hlj : (framesT real A 0 (rs.take c)).1.flatten.length + total (framesT real A (rs.take c).length [[1], []]).1 ≤ 1048576 := by
    rw [framesT_total, framesT_flat, hlc]
    simp [total] at htk hlen ⊢
    omega
  refine jPut_spec okB (by omega) (x.mv e8 (by simp) (by simp)) (dk.mv e8 (by simp) (by simp)) (j.mv e8 (by simp) (by simp) (by simp)) s8 _ r8 (by simp [isByte]) (by decide) (by omega) (fun _ hfit q9 m9 x dk j => ⟨_, rfl, ?_⟩) (fun h => absurd (by simp) h) (fun _ h => absurd hlj h)
  replace m := m.step m9 (by simp)
  replace rv := (rv.mv e8 (by simp) (by simp)).mv m9 (by simp; omega) (by simp; omega)
  have pp := put_plain (rows := [[1], []]) hK'
  rw [← pp.2] at dk
  have hK2 := pp.1
  clear pp
  have hsince := framesT_grows real [[1], []] A (rs.take c).length
  generalize (framesT real A (rs.take c).length [[1], []]).2 = A2 at x dk hK2 hsince
  have hs2 : ∀ b ∈ rs.take c ++ [[1], []], b.length ≤ 4096 := by
    intro b h
    rcases List.mem_append.1 h with h | h
    · exact hs' b h
    · simp only [List.mem_cons, List.mem_nil_iff, or_false] at h; rcases h with rfl | rfl <;> decide
  have hb2 : ∀ b ∈ rs.take c ++ [[1], []], ∀ z ∈ b, isByte z := by
    intro b h
    rcases List.mem_append.1 h with h | h
    · exact hb' b h
    · simp only [List.mem_cons, List.mem_nil_iff, or_false] at h; rcases h with rfl | rfl <;> simp [isByte]
  have hb92 : ∀ b ∈ rs.take c ++ [[1], []], b.length ≤ 1000000000 := fun b h => by have := hs2 b h; omega
  have hl2 : (rs.take c ++ [[1], []]).length = c + 2 := by rw [List.length_append, hlc]; rfl
  have ht2 : total (rs.take c ++ [[1], []]) = total (rs.take c) + 1 := by simp [total]
  have hf2 := framesT_flat real A2 0 (rs.take c ++ [[1], []])
  refine Reopen_spec (p := (framesT real A2 0 (rs.take c ++ [[1], []])).1.flatten.length) okC x (by rw [List.take_length]; exact dk) hK2 hs2 hb2 fun pj3 q10 m10 x dk j => ⟨(_, _), rfl, ?_⟩
  have hall2 := cntJ_all (rs.take c ++ [[1], []]) (framesT real A2 0 (rs.take c ++ [[1], []])).1.flatten.length (by rw [hf2]; exact Nat.le_refl _)
  rw [hall2, List.take_length] at dk j
  replace m := m.step m10 (by simp)
  replace rv := rv.mv m10 (by simp; omega) (by simp; omega)
  try dsimp only
  rw [if_pos (by simp), if_pos (by simp)]
  refine jLen_spec j ⟨_, rfl, ?_⟩
  try dsimp only
  rw [hl2, wrapI64 (n := (sv.n : Int) + 2) (by omega) (by omega), if_pos (by simp; omega)]
  refine Len_spec dk ⟨_, rfl, ?_⟩
  try dsimp only
  rw [hf2, hl2, ht2, hfc, wrapI64 (n := ((36 * c + total (rs.take c) : Nat) : Int) + 37) (by omega) (by omega), wrapI64 (by omega) (by omega), if_pos (by simp; omega)]
  refine jRecords_spec j (by omega) hb92 22 fun s11 q11 m11 r11 _ => ⟨_, rfl, ?_⟩
  replace m := m.step m11 (by simp)
  replace rv := rv.mv m11 (by simp) (by simp)
  replace x := x.mv m11 (by simp) (by simp)
  refine newSl_C q11 21 rfl fun s12 q12 m12 o12 hn12 hc12 => ?_
  refine newSl_C q12 23 rfl fun s13 q13 m13 o13 hn13 hc13 => ?_
  have e13 : Mv [] q11 q13 := m12.step m13 (by simp)
  replace m := m.step e13 (by simp)
  have o12' := o12.mv m13 (by simp)
  refine append2_C (sls2 := [s12, ⟨none, 0, 0⟩]) (rs2 := [[1], []]) (by decide) (rv.mv e13 (by simp) (by simp)) (by simp; omega) o13.rd rfl (fun i sl xs h1 h2 => by
    rcases i with _ | _ | i
    · simp at h1 h2; subst h1 h2; exact ⟨o12'.rd, o12'.cap⟩
    · simp at h1 h2; subst h1 h2; exact ⟨RdC.nil _ _ _ _ _, Nat.le_refl _⟩
    · simp at h1) fun s14 q14 m14 r14 => ?_
  replace m := m.step m14 (by simp)
  have r11' := (r11.mv e13 (by simp)).mv m14 (by simp)
  refine sameR2_spec' r11' r14 (by omega) hb92 ⟨_, rfl, ?_⟩
  exact H A2 q14 hsince m ((x.mv e13 (by simp) (by simp)).mv m14 (by simp) (by simp))

set_option maxHeartbeats 4000000 in
theorem JournalStays_spec (g : GH) (v : Sl) (l : List Deed) (hl : SlC g 0 ShDeed v l) (keep : Int) (real : Bool) {R : Value → Heap → Prop} (H : ∀ g' : GH, Mv [] g g' → R (.bool true) g'.h) :
    HC Try.prog F.law26_JournalStays #[.slice v.a v.n v.c, .int .i64 keep, .bool real] R g.h := by
  refine law26_JournalStays.calls (l0 := v) ?_
  unfold law26_JournalStays.body
  have ok3 : okK [3, 4, 5, 6, 7] := by decide
  have m := Mv.refl (1 :: 3 :: 4 :: 5 :: 6 :: 7 :: 24 :: FL 9 10) g.base
  have fin : ∀ q : GH, Mv (1 :: 3 :: 4 :: 5 :: 6 :: 7 :: 24 :: FL 9 10) g.base q → R (.bool true) q.h := fun q m => H (g.via q fun _ => 0) (m.via (by simp) _)
  have hl0 : ∀ q : GH, Mv (1 :: 3 :: 4 :: 5 :: 6 :: 7 :: 24 :: FL 9 10) g.base q → SlC q 0 ShDeed v l := fun q m => hl.arg m (by simp)
  have hn := hl.len
  refine awake26_spec g.base fun q1 m1 => ⟨_, rfl, ?_⟩
  replace m := m.step m1 (by simp)
  try dsimp only
  rw [if_neg (by simp)]
  refine size26_spec v l (hl0 q1 m) fun n hn1 hn2 _ => ⟨_, rfl, ?_⟩
  try dsimp only
  by_cases hbig : (n : Int) > 1500
  · rw [if_pos (by simpa using hbig)]
    exact fin q1 m
  rw [if_neg (by simpa using hbig)]
  have hsz := hn2 (by omega)
  unfold deedsSize at hsz
  refine makNew_spec q1 1 2 real ⟨none, 0, 0⟩ [] (RdC.nil _ _ 0 _ _) (by simp) (by simp) fun pm q3 m3 x => ⟨_, rfl, ?_⟩
  replace m := m.step m3 (by simp)
  refine NewDisk_spec q3 3 4 (by decide) ⟨none, 0, 0⟩ [] (RowsC.nil q3 0 _ _) (by decide) (by decide) (fun pd q4 _ m4 dk => ⟨(_, _), rfl, ?_⟩) (fun _ h => absurd (by decide) h)
  replace m := m.step m4 (by simp)
  replace x := x.mv m4 (by simp) (by simp)
  refine Reopen_spec (rs := []) (p := 0) ok3 x dk trivial (by simp) (by simp) fun pj q5 m5 x dk j => ⟨(_, _), rfl, ?_⟩
  rw [List.take_nil] at dk j
  replace m := m.step m5 (by simp)
  try dsimp only
  rw [if_neg (by simp)]
  refine loopW_rule (fun st h' => ∃ (i sf : Nat) (A : List ShThing.T) (rs : List (List Int)) (q : GH), i ≤ l.length ∧ st = ((sf : Int), (i : Int)) ∧ h' = q.h ∧ Mv (1 :: 3 :: 4 :: 5 :: 6 :: 7 :: 24 :: FL 9 10) g.base q ∧ MakC q 1 2 pm real [] A ∧ DiskC q 3 4 pd (36 * sf + total (rs.take sf)) (framesT real A 0 rs).1.flatten ∧ JrnC q 5 6 7 pj pm pd rs ∧ KnownJ real A 0 rs ∧ (∀ b ∈ rs, b.length ≤ 4096) ∧ (∀ b ∈ rs, ∀ z ∈ b, isByte z) ∧ rs.length + total rs ≤ ((l.map deedSize).take i).sum ∧ sf ≤ rs.length) (fun st => l.length - st.2.toNat)
    ⟨0, 0, [], [], q5, by omega, rfl, rfl, m, x, dk, j, trivial, by simp, by simp, by simp [total], by simp⟩ ?_
  clear m x dk j m1 m3 m4 m5
  rintro X _ _ ⟨i, sf, A, rs, q, hi, rfl, rfl, m, x, dk, j, hK, hs, hb, hlen, hsf⟩ hX
  have htake : ((l.map deedSize).take i).sum ≤ 1500 := by
    have : ((l.map deedSize).take i).sum ≤ (l.map deedSize).sum := by
      conv => rhs; rw [← List.take_append_drop i (l.map deedSize), List.sum_append]
      omega
    omega
  try dsimp only
  by_cases hlt : i < l.length
  rotate_left
  · rw [if_neg (by simp; omega)]
    have hb9 : ∀ x ∈ rs, x.length ≤ 1000000000 := fun x hx => by have := hs x hx; omega
    refine jRecords_spec j (by omega) hb9 24 fun s2 q2 m2 r2 hc2 => ⟨_, rfl, ?_⟩
    refine fell_spec (by omega) (by omega) (by decide) (x.mv m2 (by simp) (by simp)) (dk.mv m2 (by simp) (by simp)) hK hs hb (by omega) s2 r2 hc2 sf hsf rfl keep fun A' q3 _ m3 x => ⟨_, rfl, ?_⟩
    exact fin q3 ((m.step m2 (by simp)).step m3 (by simp))
  rw [if_pos (by simp; omega)]
  have hst := sum_take (l := l.map deedSize) (i := i) (by simpa using hlt)
  rw [List.getElem_map] at hst
  have htake' : ((l.map deedSize).take (i + 1)).sum ≤ 1500 := by
    have : ((l.map deedSize).take (i + 1)).sum ≤ (l.map deedSize).sum := by
      conv => rhs; rw [← List.take_append_drop (i + 1) (l.map deedSize), List.sum_append]
      omega
    omega
  refine joinW_intro (fun st h' => ∃ (sf : Nat) (A : List ShThing.T) (rs : List (List Int)) (q : GH), st = (sf : Int) ∧ h' = q.h ∧ Mv (1 :: 3 :: 4 :: 5 :: 6 :: 7 :: 24 :: FL 9 10) g.base q ∧ MakC q 1 2 pm real [] A ∧ DiskC q 3 4 pd (36 * sf + total (rs.take sf)) (framesT real A 0 rs).1.flatten ∧ JrnC q 5 6 7 pj pm pd rs ∧ KnownJ real A 0 rs ∧ (∀ b ∈ rs, b.length ≤ 4096) ∧ (∀ b ∈ rs, ∀ z ∈ b, isByte z) ∧ rs.length + total rs ≤ ((l.map deedSize).take (i + 1)).sum ∧ sf ≤ rs.length) ?_ ?_
  · intro J hJ
    refine (hl0 q m).idx (sizeDeed26.trans rfl) (by decide) hlt fun b o cs rc lay => ?_
    obtain ⟨w, rfl, hw, ha, _⟩ := LayC.deed lay
    try simp only [derefK_some, fldK_some, Nat.zero_add, Nat.add_zero, Nat.reduceAdd, inj_int, inj_bool, inj_str, inj_ptr, inj_map, inj_slice, exists_eq_left, List.getElem?_toArray, List.getElem?_cons_zero, List.getElem?_cons_succ, Option.isNone_some, Option.isNone_none, Bool.not_true, Bool.not_false, Bool.false_eq_true, if_true, if_false, reduceIte, eq_self, not_true_eq_false, not_false_eq_true, bne_self_eq_false, beq_self_eq_true, decide_true, decide_false, decide_eq_true_eq, beq_iff_eq, bne_iff_ne, ne_eq]
    refine loadK_cells rc (k := .int .i64) (j := 0) l[i].1 rfl rfl ?_
    refine Pick_spec _ 2 ha (by decide) ⟨_, rfl, ?_⟩
    try dsimp only
    by_cases h0 : l[i].1 % 2 = 0
    · rw [if_pos (by simpa using h0)]
      refine (hl0 q m).idx (sizeDeed26.trans rfl) (by decide) hlt fun b o cs rc lay => ?_
      obtain ⟨w, rfl, hw, ha, _⟩ := LayC.deed lay
      try simp only [derefK_some, fldK_some, Nat.zero_add, Nat.add_zero, Nat.reduceAdd, inj_int, inj_bool, inj_str, inj_ptr, inj_map, inj_slice, exists_eq_left, List.getElem?_toArray, List.getElem?_cons_zero, List.getElem?_cons_succ, Option.isNone_some, Option.isNone_none, Bool.not_true, Bool.not_false, Bool.false_eq_true, if_true, if_false, reduceIte, eq_self, not_true_eq_false, not_false_eq_true, bne_self_eq_false, beq_self_eq_true, decide_true, decide_false, decide_eq_true_eq, beq_iff_eq, bne_iff_ne, ne_eq]
      refine loadK_cells rc (k := .slice) (j := 2) w rfl rfl ?_
      have hds : deedSize l[i] = l[i].2.2.1.length + total l[i].2.2.1 := rfl
      have hsm : ∀ b ∈ l[i].2.2.1, b.length ≤ 4096 := fun b hb => by have := total_mem hb; omega
      have hby : ∀ b ∈ l[i].2.2.1, ∀ z ∈ b, isByte z := fun b hb z hz => hw.rows.2.1 b hb z hz
      generalize l[i].2.2.1 = rows at hw hds hsm hby
      refine jPut_spec ok3 (by decide) x dk j w rows hw.rows.1 hby (by omega) (by omega) (fun _ hfit q2 m2 x dk j => ⟨_, rfl, ?_⟩) (fun h => absurd hsm h) (fun _ h => absurd (by rw [framesT_total, framesT_flat]; omega) h)
      have pp := put_plain (rows := rows) hK
      rw [← pp.2] at dk
      try dsimp only
      rw [if_neg (by simp)]
      refine hJ _ _ ⟨sf, _, rs ++ rows, q2, rfl, rfl, m.step m2 (by simp), x, ?_, j, pp.1, ?_, ?_, ?_, ?_⟩
      · rw [List.take_append_of_le_length hsf]; exact dk
      · intro b h
        rcases List.mem_append.1 h with h | h
        · exact hs b h
        · exact hsm b h
      · intro b h
        rcases List.mem_append.1 h with h | h
        · exact hb b h
        · exact hby b h
      · rw [hst, hds, List.length_append]
        have : total (rs ++ rows) = total rs + total rows := by simp [total]
        omega
      · rw [List.length_append]; omega
    · have h1 : l[i].1 % 2 = 1 := by omega
      rw [if_neg (by simpa using h0), if_pos (by simpa using h1)]
      refine jSync_spec (by decide) j dk fun q2 m2 dk => ⟨_, rfl, ?_⟩
      try dsimp only
      rw [if_neg (by simp)]
      replace j := j.mv m2 (by simp) (by simp) (by simp)
      refine jLen_spec j ⟨_, rfl, ?_⟩
      refine hJ _ _ ⟨rs.length, A, rs, q2, rfl, rfl, m.step m2 (by simp), x.mv m2 (by simp) (by simp), ?_, j, hK, hs, hb, by omega, Nat.le_refl _⟩
      rw [List.take_length, ← framesT_flat real A 0 rs]
      exact dk
  rintro _ _ ⟨sf, A, rs, q, rfl, rfl, m, x, dk, j, hK, hs, hb, hlen, hsf⟩
  try dsimp only
  have hb9 : ∀ x ∈ rs, x.length ≤ 1000000000 := fun x hx => by have := hs x hx; omega
  refine Copy_spec q 9 10 dk fun pd2 q2 m2 dk2 => ⟨_, rfl, ?_⟩
  refine jRecords_spec (j.mv m2 (by simp) (by simp) (by simp)) (by omega) hb9 24 fun s3 q3 m3 r3 hc3 => ⟨_, rfl, ?_⟩
  have e3 : Mv [] q q3 := m2.step m3 (by simp)
  refine fell_spec (by omega) (by omega) (by decide) (x.mv e3 (by simp) (by simp)) (dk2.mv m3 (by simp) (by simp)) hK hs hb (by omega) s3 r3 hc3 sf hsf rfl _ fun A' q4 hsi m4 x => ⟨_, rfl, ?_⟩
  try dsimp only
  rw [if_neg (by simp), wrapSucc (by omega)]
  obtain ⟨hK2, hf2⟩ := hK.since hsi
  refine hX _ _ ⟨i + 1, sf, A', rs, q4, by omega, rfl, rfl, (m.step e3 (by simp)).step m4 (by simp), x, ?_, (j.mv e3 (by simp) (by simp) (by simp)).mv m4 (by simp) (by simp) (by simp), hK2, hs, hb, hlen, hsf⟩ (by simp; omega)
  rw [hf2]
  exact (dk.mv e3 (by simp) (by simp)).mv m4 (by simp) (by simp)

theorem JournalStays_walk {h : Heap} (a : Option Addr) (la ca : Nat) (l : List Deed) (w : Lay h (.sl ShDeed) l [.slice a la ca]) (k : Int) (_ : (Lit.int IntKind.i64 k).wf = true) (real : Bool) :
    HC Try.prog F.law26_JournalStays #[.slice a la ca, .int .i64 k, .bool real] (fun v h' => v = .bool true ∧ Ext h h') h :=
  JournalStays_spec ⟨h, fun _ => 0⟩ ⟨a, la, ca⟩ l (w.arg (Mv.refl [] _) (by simp)) k real fun g' m => ⟨rfl, m.ext (by simp)⟩

end Go.Proofs.Ytgongoaiflphaaa
