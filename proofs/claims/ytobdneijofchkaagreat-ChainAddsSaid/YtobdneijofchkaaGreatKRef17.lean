/-
  The document's own writer of fields: contracts of its functions.
-/
import Derived.Test.YtobdneijofchkaaGreatKCodec
import Derived.Test.YtobdneijofchkaaGreatKFields
import Derived.Test.YtobdneijofchkaaGreatKApi
set_option linter.unusedSimpArgs false
set_option linter.unusedVariables false
namespace Go.Proofs.YtobdneijofchkaaGreat
open Go Go.Ev

/-- The document's writer. -/
def W17 (g : GH) (kq kr p : Nat) (e : Int) (bs : List Int) : Prop :=
  ∃ s : Sl, BlkC g kq p #[.slice s.a s.n s.c, .int .i64 e] T.zugzwangref17_Writer ∧ OwnC T.uint8 1 g kr s (bs.map byV) ∧ bs.length ≤ 65536
theorem W17.mv {K : List Nat} {g g' : GH} {kq kr p : Nat} {e : Int} {bs : List Int} (r : W17 g kq kr p e bs) (m : Mv K g g') (h1 : kq ∉ K) (h2 : kr ∉ K) : W17 g' kq kr p e bs := by
  obtain ⟨s, b, o, r⟩ := r
  exact ⟨s, b.mv m h1, o.mv m h2, r⟩

def refPut (st : Int × List Int) (b : List Int) : Int × List Int := if st.1 ≠ 0 then st else if 65536 < st.2.length + b.length then (3, st.2) else (0, st.2 ++ b)
theorem putAll_take {α : Type} {may : α → Bool} {of : α → List Int} {st : Int × List Int} {xs : List α} {i : Nat} (h : i < xs.length) : putAll may of st (xs.take (i + 1)) = putStep may of (putAll may of st (xs.take i)) xs[i] := by
  unfold putAll
  rw [List.take_succ_eq_append_getElem h, List.foldl_append]; rfl

theorem refPut_spec {g : GH} {kq kr c p : Nat} {e : Int} {bs : List Int} (hk : kq ≠ kr) (hcp : c ≠ kq) (hcb : c ≠ kr) (hw : W17 g kq kr p e bs) (v : Sl) (b : List Int) (hr : RdC 1 g c v (b.map byV)) (hl : b.length ≤ 900000000) {R : Value → Heap → Prop}
    (H : ∀ g' : GH, Mv [kq, kr] g g' → W17 g' kq kr p (refPut (e, bs) b).1 (refPut (e, bs) b).2 → R (.tuple #[]) g'.h) : HC Tryz.prog F.ref17_Writer_put #[.pointer (some ⟨p, 0, none⟩), .slice v.a v.n v.c] R g.h := by
  refine ref17_Writer_put.calls (b1 := v) ?_
  unfold ref17_Writer_put.body
  obtain ⟨s0, hb, ho, hbl⟩ := hw
  have hn := hr.len
  have hs0 := ho.len
  simp only [List.length_map] at hn hs0
  refine joinW_intro (fun _ h' => ∃ q : GH, h' = q.h ∧ Mv [kq, kr] g q ∧ BlkC q kq p #[.slice s0.a s0.n s0.c, .int .i64 (if e = 0 then (if 65536 < bs.length + b.length then 3 else 0) else e)] T.zugzwangref17_Writer ∧ OwnC T.uint8 1 q kr s0 (bs.map byV) ∧ RdC 1 q c v (b.map byV)) ?_ ?_
  · intro J hJ
    refine joinW_intro (fun x h' => x = (decide (e = 0) && decide (65536 < bs.length + b.length)) ∧ h' = g.h) ?_ ?_
    · intro J2 hJ2
      simp only [derefK_some, fldK_some, Nat.zero_add, Nat.add_zero, Nat.reduceAdd, inj_int, inj_bool, inj_str, inj_ptr, inj_map, inj_slice, exists_eq_left, List.getElem?_toArray, List.getElem?_cons_zero, List.getElem?_cons_succ, Option.isNone_some, Option.isNone_none, Bool.not_true, Bool.not_false, Bool.false_eq_true, if_true, if_false, reduceIte, eq_self, not_true_eq_false, not_false_eq_true, bne_self_eq_false, beq_self_eq_true, decide_true, decide_false, decide_eq_true_eq, beq_iff_eq, bne_iff_ne, ne_eq, loadK_C hb]
      by_cases he : e = 0
      · rw [if_pos (by simp [he])]
        rw [wrapI64 (by omega) (by omega)]
        refine hJ2 _ _ ⟨?_, rfl⟩
        rw [decide_eq_true he, Bool.true_and]
        apply decide_eq_decide.2
        omega
      · rw [if_neg (by simpa using he)]
        exact hJ2 _ _ ⟨by simp [he], rfl⟩
    · rintro _ _ ⟨rfl, rfl⟩
      by_cases hc : e = 0 ∧ 65536 < bs.length + b.length
      · rw [if_pos (by simp [hc.1, hc.2]), derefK_some, fldK_some, Nat.zero_add]
        refine store_C hb (by simp) rfl fun q2 m2 b2 => ?_
        simp only [List.setIfInBounds_toArray, List.set_cons_succ, List.set_cons_zero] at b2
        refine hJ _ _ ⟨q2, rfl, m2.mono (by simp), ?_, ho.mv m2 (by simp [Ne.symm hk]), hr.mv m2 (by simp [hcp])⟩
        rw [if_pos hc.1, if_pos hc.2]
        exact b2
      · rw [if_neg (by simpa using hc)]
        refine hJ _ _ ⟨g, rfl, Mv.refl _ _, ?_, ho, hr⟩
        have : (if e = 0 then (if 65536 < bs.length + b.length then 3 else 0) else e) = e := by
          by_cases he : e = 0
          · rw [if_pos he, if_neg (fun h => hc ⟨he, h⟩)]; exact he.symm
          · rw [if_neg he]
        rw [this]
        exact hb
  · rintro _ _ ⟨q, rfl, m, hb, ho, hr⟩
    rw [derefK_some, fldK_some, Nat.zero_add, loadK_C hb]
    refine ⟨_, rfl, ?_⟩
    unfold refPut at H
    dsimp only at H
    by_cases he : e = 0
    · subst he
      rw [if_pos rfl] at hb ⊢
      rw [if_neg (by simp)] at H
      by_cases hbig : 65536 < bs.length + b.length
      · rw [if_pos hbig] at hb ⊢
        rw [if_pos hbig] at H
        rw [if_neg (by simp)]
        exact H q m ⟨s0, hb, ho, hbl⟩
      · rw [if_neg hbig] at hb ⊢
        rw [if_neg hbig] at H
        rw [if_pos (by simp), derefK_some, fldK_some, Nat.zero_add, loadK_C hb]
        refine ⟨s0, rfl, ?_⟩
        refine append_C (e := T.uint8) (e2 := T.uint8) (sz := 1) (by_ := 1) (z := .int .u8 0) (by kernel_rfl) (by kernel_rfl) (by kernel_rfl) rfl (by omega) ho hr.rd (oneBy _) (by omega) fun s3 q3 m3 o3 hn3 _ => ?_
        rw [derefK_some, fldK_some, Nat.zero_add]
        refine store_C (hb.mv m3 (by simp [hk])) (by simp) rfl fun q4 m4 b4 => ?_
        exact H q4 ((m.step m3 (by simp)).step m4 (by simp)) ⟨s3, b4, by rw [List.map_append]; exact o3.mv m4 (by simp [Ne.symm hk]), by rw [List.length_append]; omega⟩
    · rw [if_neg he] at hb ⊢
      rw [if_pos he] at H
      rw [if_neg (by simpa using he)]
      exact H q m ⟨s0, hb, ho, hbl⟩

theorem four_spec (q : GH) (k : Nat) (x : Int) {R : Value → Heap → Prop} (H : ∀ (s : Sl) (q' : GH), Mv [] q q' → OwnC T.uint8 1 q' k s ((fourB x).map byV) → R (.slice s.a s.n s.c) q'.h) : HC Tryz.prog F.ref17_Four #[.int .i64 x] R q.h := by
  refine ref17_Four.calls ?_
  unfold ref17_Four.body
  refine ⟨by decide, by decide, by decide, ?_⟩
  exact newSl_C q k rfl fun s q' m o hn hc => H s q' m o

theorem refByte_spec {g : GH} {kq kr c p : Nat} {e : Int} {bs : List Int} (hk : kq ≠ kr) (hcp : c ≠ kq) (hcb : c ≠ kr) (hw : W17 g kq kr p e bs) (v : Sl) (xs : List Int) (hr : RdC 1 g c v (xs.map (.int .i64))) (hl : xs.length ≤ 1000000000) {R : Value → Heap → Prop}
    (H : ∀ g' : GH, Mv [kq, kr] g g' → W17 g' kq kr p (putAll (within 255) oneB (e, bs) xs).1 (putAll (within 255) oneB (e, bs) xs).2 → R (.int .i64 (putAll (within 255) oneB (e, bs) xs).1) g'.h) : HC Tryz.prog F.ref17_Writer_Byte #[.pointer (some ⟨p, 0, none⟩), .slice v.a v.n v.c] R g.h := by
  refine ref17_Writer_Byte.calls (l1 := v) ?_
  unfold ref17_Writer_Byte.body
  have hn := hr.len
  simp only [List.length_map] at hn
  obtain ⟨y, hyp, hyb⟩ : ∃ y, y ≠ kq ∧ y ≠ kr := ⟨kq + kr + 1, by omega, by omega⟩
  refine loopW_rule (fun st h' => ∃ (i : Nat) (q : GH), i ≤ xs.length ∧ st = (i : Int) ∧ h' = q.h ∧ Mv [kq, kr] g q ∧ W17 q kq kr p (putAll (within 255) oneB (e, bs) (xs.take i)).1 (putAll (within 255) oneB (e, bs) (xs.take i)).2) (fun st => xs.length - st.toNat)
    ⟨0, g, by omega, rfl, rfl, Mv.refl _ _, by simpa [putAll] using hw⟩ ?_
  rintro X _ _ ⟨i, q, hi, rfl, rfl, m, hw⟩ hX
  have hrq := hr.mv m (by simp [hcp, hcb])
  by_cases hlt : i < xs.length
  · rw [if_pos (by first | omega | (simp; omega))]
    have hst := putAll_take (may := within 255) (of := oneB) (st := (e, bs)) hlt
    generalize putAll (within 255) oneB (e, bs) (xs.take i) = st at hw hst
    obtain ⟨e1, bs1⟩ := st
    have hget : (xs.map (Value.int .i64))[i]? = some (Kd.inj (.int .i64) xs[i]) := getElem?_map_at _ hlt
    have hw0 := hw
    obtain ⟨s0, hb, ho, hbl⟩ := hw
    -- a number that may not be
    refine joinW_intro (fun _ h' => ∃ q' : GH, h' = q'.h ∧ Mv [kq, kr] q q' ∧ W17 q' kq kr p (if e1 = 0 then (if within 255 xs[i] = true then 0 else 2) else e1) bs1) ?_ ?_
    · intro J hJ
      refine joinW_intro (fun b h' => b = (decide (e1 = 0) && !within 255 xs[i]) ∧ h' = q.h) ?_ ?_
      · intro J2 hJ2
        rw [derefK_some, fldK_some, Nat.zero_add, loadK_C hb]
        refine ⟨e1, rfl, ?_⟩
        by_cases he : e1 = 0
        · rw [if_pos (by simp [he])]
          refine idxLoadN hrq.rd (by kernel_rfl) (k := .int .i64) _ hget ?_
          by_cases h0 : xs[i] < 0
          · rw [if_pos (by simpa using h0)]
            exact hJ2 _ _ ⟨by simp [he, within]; omega, rfl⟩
          · rw [if_neg (by simpa using h0)]
            refine idxLoadN hrq.rd (by kernel_rfl) (k := .int .i64) _ hget ?_
            refine hJ2 _ _ ⟨?_, rfl⟩
            by_cases h1 : xs[i] ≤ 255
            · rw [decide_eq_false (by omega)]; simp [he, within]; omega
            · rw [decide_eq_true (by omega)]; simp [he, within]; omega
        · rw [if_neg (by simpa using he)]
          exact hJ2 _ _ ⟨by simp [he], rfl⟩
      · rintro _ _ ⟨rfl, rfl⟩
        by_cases hc : e1 = 0 ∧ within 255 xs[i] = false
        · rw [if_pos (by simp [hc.1, hc.2]), derefK_some, fldK_some, Nat.zero_add]
          refine store_C hb (by simp) rfl fun q2 m2 b2 => ?_
          simp only [List.setIfInBounds_toArray, List.set_cons_succ, List.set_cons_zero] at b2
          refine hJ _ _ ⟨q2, rfl, m2.mono (by simp), ⟨s0, ?_, ho.mv m2 (by simp [Ne.symm hk]), hbl⟩⟩
          rw [if_pos hc.1, if_neg (by simp [hc.2])]
          exact b2
        · have hc' : (decide (e1 = 0) && !within 255 xs[i]) = false := by
            by_cases he : e1 = 0
            · cases h : within 255 xs[i] with
              | true => simp
              | false => exact absurd ⟨he, h⟩ hc
            · simp [he]
          rw [hc', if_neg (by simp)]
          refine hJ _ _ ⟨q, rfl, Mv.refl _ _, ⟨s0, ?_, ho, hbl⟩⟩
          have : (if e1 = 0 then (if within 255 xs[i] = true then 0 else 2) else e1) = e1 := by
            by_cases he : e1 = 0
            · rw [if_pos he, if_pos (by cases h : within 255 xs[i] with
                | true => rfl
                | false => exact absurd ⟨he, h⟩ hc)]
              exact he.symm
            · rw [if_neg he]
          rw [this]
          exact hb
    · rintro _ _ ⟨q2, rfl, m2, hw2⟩
      refine idxLoadN (hrq.mv m2 (by simp [hcp, hcb])).rd (by kernel_rfl) (k := .int .i64) _ hget ?_
      refine newSl_C q2 y rfl fun s3 q3 m3 o3 hn3 hc3 => ?_
      refine refPut_spec hk hyp hyb (hw2.mv m3 (by simp) (by simp)) s3 (oneB xs[i]) o3.rd (by simp [oneB]) fun q4 m4 w4 => ⟨(), rfl, ?_⟩
      have mm : Mv [kq, kr] g q4 := ((m.step m2 (by simp)).step m3 (by simp)).step m4 (by simp)
      rw [wrapSucc (by omega)]
      have hfin : refPut ((if e1 = 0 then (if within 255 xs[i] = true then 0 else 2) else e1), bs1) (oneB xs[i]) = putStep (within 255) oneB (e1, bs1) xs[i] := by
        unfold refPut putStep
        by_cases he : e1 = 0
        · cases h : within 255 xs[i] <;> simp [he]
        · simp [he]
      rw [hfin, ← hst] at w4
      exact hX _ _ ⟨i + 1, q4, by omega, rfl, rfl, mm, w4⟩ (by simp; omega)
  · rw [if_neg (by first | omega | (simp; omega))]
    have hi' : i = xs.length := by omega
    subst hi'
    rw [List.take_length] at hw
    have hw0 := hw
    obtain ⟨s0, hb, ho, hbl⟩ := hw
    rw [derefK_some, fldK_some, Nat.zero_add, loadK_C hb]
    exact ⟨_, rfl, H q m hw0⟩

theorem refNumber_spec {g : GH} {kq kr c p : Nat} {e : Int} {bs : List Int} (hk : kq ≠ kr) (hcp : c ≠ kq) (hcb : c ≠ kr) (hw : W17 g kq kr p e bs) (v : Sl) (xs : List Int) (hr : RdC 1 g c v (xs.map (.int .i64))) (hl : xs.length ≤ 1000000000) {R : Value → Heap → Prop}
    (H : ∀ g' : GH, Mv [kq, kr] g g' → W17 g' kq kr p (putAll (within 4294967295) fourB (e, bs) xs).1 (putAll (within 4294967295) fourB (e, bs) xs).2 → R (.int .i64 (putAll (within 4294967295) fourB (e, bs) xs).1) g'.h) : HC Tryz.prog F.ref17_Writer_Number #[.pointer (some ⟨p, 0, none⟩), .slice v.a v.n v.c] R g.h := by
  refine ref17_Writer_Number.calls (l1 := v) ?_
  unfold ref17_Writer_Number.body
  have hn := hr.len
  simp only [List.length_map] at hn
  obtain ⟨y, hyp, hyb⟩ : ∃ y, y ≠ kq ∧ y ≠ kr := ⟨kq + kr + 1, by omega, by omega⟩
  refine loopW_rule (fun st h' => ∃ (i : Nat) (q : GH), i ≤ xs.length ∧ st = (i : Int) ∧ h' = q.h ∧ Mv [kq, kr] g q ∧ W17 q kq kr p (putAll (within 4294967295) fourB (e, bs) (xs.take i)).1 (putAll (within 4294967295) fourB (e, bs) (xs.take i)).2) (fun st => xs.length - st.toNat)
    ⟨0, g, by omega, rfl, rfl, Mv.refl _ _, by simpa [putAll] using hw⟩ ?_
  rintro X _ _ ⟨i, q, hi, rfl, rfl, m, hw⟩ hX
  have hrq := hr.mv m (by simp [hcp, hcb])
  by_cases hlt : i < xs.length
  · rw [if_pos (by first | omega | (simp; omega))]
    have hst := putAll_take (may := within 4294967295) (of := fourB) (st := (e, bs)) hlt
    generalize putAll (within 4294967295) fourB (e, bs) (xs.take i) = st at hw hst
    obtain ⟨e1, bs1⟩ := st
    have hget : (xs.map (Value.int .i64))[i]? = some (Kd.inj (.int .i64) xs[i]) := getElem?_map_at _ hlt
    have hw0 := hw
    obtain ⟨s0, hb, ho, hbl⟩ := hw
    -- a number that may not be
    refine joinW_intro (fun _ h' => ∃ q' : GH, h' = q'.h ∧ Mv [kq, kr] q q' ∧ W17 q' kq kr p (if e1 = 0 then (if within 4294967295 xs[i] = true then 0 else 2) else e1) bs1) ?_ ?_
    · intro J hJ
      refine joinW_intro (fun b h' => b = (decide (e1 = 0) && !within 4294967295 xs[i]) ∧ h' = q.h) ?_ ?_
      · intro J2 hJ2
        rw [derefK_some, fldK_some, Nat.zero_add, loadK_C hb]
        refine ⟨e1, rfl, ?_⟩
        by_cases he : e1 = 0
        · rw [if_pos (by simp [he])]
          refine idxLoadN hrq.rd (by kernel_rfl) (k := .int .i64) _ hget ?_
          by_cases h0 : xs[i] < 0
          · rw [if_pos (by simpa using h0)]
            exact hJ2 _ _ ⟨by simp [he, within]; omega, rfl⟩
          · rw [if_neg (by simpa using h0)]
            refine idxLoadN hrq.rd (by kernel_rfl) (k := .int .i64) _ hget ?_
            refine hJ2 _ _ ⟨?_, rfl⟩
            by_cases h1 : xs[i] ≤ 4294967295
            · rw [decide_eq_false (by omega)]; simp [he, within]; omega
            · rw [decide_eq_true (by omega)]; simp [he, within]; omega
        · rw [if_neg (by simpa using he)]
          exact hJ2 _ _ ⟨by simp [he], rfl⟩
      · rintro _ _ ⟨rfl, rfl⟩
        by_cases hc : e1 = 0 ∧ within 4294967295 xs[i] = false
        · rw [if_pos (by simp [hc.1, hc.2]), derefK_some, fldK_some, Nat.zero_add]
          refine store_C hb (by simp) rfl fun q2 m2 b2 => ?_
          simp only [List.setIfInBounds_toArray, List.set_cons_succ, List.set_cons_zero] at b2
          refine hJ _ _ ⟨q2, rfl, m2.mono (by simp), ⟨s0, ?_, ho.mv m2 (by simp [Ne.symm hk]), hbl⟩⟩
          rw [if_pos hc.1, if_neg (by simp [hc.2])]
          exact b2
        · have hc' : (decide (e1 = 0) && !within 4294967295 xs[i]) = false := by
            by_cases he : e1 = 0
            · cases h : within 4294967295 xs[i] with
              | true => simp
              | false => exact absurd ⟨he, h⟩ hc
            · simp [he]
          rw [hc', if_neg (by simp)]
          refine hJ _ _ ⟨q, rfl, Mv.refl _ _, ⟨s0, ?_, ho, hbl⟩⟩
          have : (if e1 = 0 then (if within 4294967295 xs[i] = true then 0 else 2) else e1) = e1 := by
            by_cases he : e1 = 0
            · rw [if_pos he, if_pos (by cases h : within 4294967295 xs[i] with
                | true => rfl
                | false => exact absurd ⟨he, h⟩ hc)]
              exact he.symm
            · rw [if_neg he]
          rw [this]
          exact hb
    · rintro _ _ ⟨q2, rfl, m2, hw2⟩
      refine idxLoadN (hrq.mv m2 (by simp [hcp, hcb])).rd (by kernel_rfl) (k := .int .i64) _ hget ?_
      refine four_spec q2 y xs[i] fun s3 q3 m3 o3 => ⟨_, rfl, ?_⟩
      refine refPut_spec hk hyp hyb (hw2.mv m3 (by simp) (by simp)) s3 (fourB xs[i]) o3.rd (by simp [fourB]) fun q4 m4 w4 => ⟨(), rfl, ?_⟩
      have mm : Mv [kq, kr] g q4 := ((m.step m2 (by simp)).step m3 (by simp)).step m4 (by simp)
      rw [wrapSucc (by omega)]
      have hfin : refPut ((if e1 = 0 then (if within 4294967295 xs[i] = true then 0 else 2) else e1), bs1) (fourB xs[i]) = putStep (within 4294967295) fourB (e1, bs1) xs[i] := by
        unfold refPut putStep
        by_cases he : e1 = 0
        · cases h : within 4294967295 xs[i] <;> simp [he]
        · simp [he]
      rw [hfin, ← hst] at w4
      exact hX _ _ ⟨i + 1, q4, by omega, rfl, rfl, mm, w4⟩ (by simp; omega)
  · rw [if_neg (by first | omega | (simp; omega))]
    have hi' : i = xs.length := by omega
    subst hi'
    rw [List.take_length] at hw
    have hw0 := hw
    obtain ⟨s0, hb, ho, hbl⟩ := hw
    rw [derefK_some, fldK_some, Nat.zero_add, loadK_C hb]
    exact ⟨_, rfl, H q m hw0⟩

theorem refPut_yes {α : Type} (of : α → List Int) (st : Int × List Int) (x : α) : refPut st (of x) = putStep yes of st x := by unfold refPut putStep yes; simp

theorem refTag_spec {g : GH} {kq kr c p : Nat} {e : Int} {bs : List Int} (hk : kq ≠ kr) (hcp : c ≠ kq) (hcb : c ≠ kr) (hw : W17 g kq kr p e bs) (v : Sl) (xs : List (List Int)) (hr : SlC g c ShTag v xs) (hl : xs.length ≤ 1000000000) {R : Value → Heap → Prop}
    (H : ∀ g' : GH, Mv [kq, kr] g g' → W17 g' kq kr p (putAll yes tagB (e, bs) xs).1 (putAll yes tagB (e, bs) xs).2 → R (.int .i64 (putAll yes tagB (e, bs) xs).1) g'.h) : HC Tryz.prog F.ref17_Writer_Tag #[.pointer (some ⟨p, 0, none⟩), .slice v.a v.n v.c] R g.h := by
  refine ref17_Writer_Tag.calls (l1 := v) ?_
  unfold ref17_Writer_Tag.body
  have hn := hr.len
  obtain ⟨x, hx, hxn⟩ := fresh_exists g [kq, kr, c]
  simp only [List.mem_cons, List.mem_nil_iff, or_false, not_or] at hxn
  have hxq := hxn.1
  have hxr := hxn.2.1
  have hxc := hxn.2.2
  refine loopW_rule (fun st h' => ∃ (i : Nat) (q : GH), i ≤ xs.length ∧ st = (i : Int) ∧ h' = q.h ∧ Mv [kq, kr, x] g q ∧ W17 q kq kr p (putAll yes tagB (e, bs) (xs.take i)).1 (putAll yes tagB (e, bs) (xs.take i)).2) (fun st => xs.length - st.toNat)
    ⟨0, g, by omega, rfl, rfl, Mv.refl _ _, by simpa [putAll] using hw⟩ ?_
  rintro X _ _ ⟨i, q, hi, rfl, rfl, m, hw⟩ hX
  by_cases hlt : i < xs.length
  · rw [if_pos (by first | omega | (simp; omega))]
    have hst := putAll_take (may := yes) (of := tagB) (st := (e, bs)) hlt
    generalize putAll yes tagB (e, bs) (xs.take i) = st at hw hst
    obtain ⟨e1, bs1⟩ := st
    have hokt : (xs[i]).length = 32 := (hr.rdF rfl).2 _ (List.getElem_mem hlt) |>.1
    refine loopW_rule (fun st h' => ∃ (k : Nat) (s : Sl) (q : GH), k ≤ 32 ∧ st = (s, (k : Int)) ∧ h' = q.h ∧ Mv [kq, kr, x] g q ∧ W17 q kq kr p e1 bs1 ∧ OwnC T.uint8 1 q x s ((xs[i].take k).map byV)) (fun st => 32 - st.2.toNat)
      ⟨0, ⟨none, 0, 0⟩, q, by omega, rfl, rfl, m, hw, by simpa using OwnC.nil _ _ _ _⟩ ?_
    clear m hw
    rintro Y _ _ ⟨k, s, q, hk2, rfl, rfl, m, hw, o⟩ hY
    try dsimp only
    have hol := o.len
    simp only [List.length_map, List.length_take] at hol
    by_cases hk3 : k < 32
    · rw [if_pos (by first | omega | (simp; omega))]
      refine (hr.mv m (by simp [hcp, hcb, Ne.symm hxc])).idxF rfl szTag (by decide) hlt fun b o' hcs ok hel => ?_
      refine idxArr_N zU8 hk3 ?_
      rw [encTag] at hcs
      refine loadK_cells hcs (k := .int .u8) (j := k) (xs[i][k]'(by omega)) rfl (getElem?_map_at _ (by omega)) ?_
      refine newSl_C q x rfl fun s3 q3 m3 o3 hn3 hc3 => ?_
      refine append_C (e := T.uint8) (e2 := T.uint8) (sz := 1) (by_ := 1) (z := .int .u8 0) (by kernel_rfl) (by kernel_rfl) (by kernel_rfl) rfl (by omega) (o.mv m3 (by simp)) o3.rd.rd (by simp [Value.oneCell']) (by omega) fun s4 q4 m4 o4 hn4 _ => ?_
      rw [wrapSucc (by omega)]
      refine hY _ _ ⟨k + 1, s4, q4, by omega, rfl, rfl, (m.step m3 (by simp)).step m4 (by simp), (hw.mv m3 (by simp) (by simp)).mv m4 (by simp [Ne.symm hxq]) (by simp [Ne.symm hxr]), ?_⟩ (by simp; omega)
      rw [List.take_succ_eq_append_getElem (by omega), List.map_append]
      exact o4
    · rw [if_neg (by first | omega | (simp; omega))]
      have hk4 : k = 32 := by omega
      subst hk4
      rw [List.take_of_length_le (by omega)] at o
      refine refPut_spec hk hxq hxr hw s (tagB xs[i]) o.rd (by unfold tagB; omega) fun q4 m4 w4 => ⟨(), rfl, ?_⟩
      rw [refPut_yes, ← hst] at w4
      rw [wrapSucc (by omega)]
      exact hX _ _ ⟨i + 1, q4, by omega, rfl, rfl, m.step m4 (by simp), w4⟩ (by simp; omega)
  · rw [if_neg (by first | omega | (simp; omega))]
    have hi' : i = xs.length := by omega
    subst hi'
    rw [List.take_length] at hw
    have hw0 := hw
    obtain ⟨s0, hb, ho, hbl⟩ := hw
    rw [derefK_some, fldK_some, Nat.zero_add, loadK_C hb]
    refine ⟨_, rfl, H (g.via q (reOne x 0)) (m.re _ (by simp [hx])) ?_⟩
    have b2 := hb.re m (φ := reOne x 0) (.inl (reOne_ne (Ne.symm hxq)))
    have o2 := ho.re m (φ := reOne x 0) (.inl (reOne_ne (Ne.symm hxr)))
    rw [reOne_ne (Ne.symm hxq)] at b2
    rw [reOne_ne (Ne.symm hxr)] at o2
    exact ⟨s0, b2, o2, hbl⟩

end Go.Proofs.YtobdneijofchkaaGreat
