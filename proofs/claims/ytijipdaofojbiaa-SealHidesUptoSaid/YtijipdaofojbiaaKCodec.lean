/-
  The package codec: contracts of its functions. Writers.
-/
import Derived.Test.YtijipdaofojbiaaKTag
import Derived.Test.YtijipdaofojbiaaConv
import Derived.Test.YtijipdaofojbiaaKSlices
set_option linter.unusedSimpArgs false
set_option linter.unusedVariables false
namespace Go.Proofs.Ytijipdaofojbiaa
open Go Go.Ev

/-! ### In plain Lean -/

/-- A field is put. -/
def putStep {α : Type} (may : α → Bool) (of : α → List Int) (st : Int × List Int) (x : α) : Int × List Int :=
  if st.1 ≠ 0 then st else if may x = false then (2, st.2) else if 65536 < st.2.length + (of x).length then (3, st.2) else (0, st.2 ++ of x)
def putAll {α : Type} (may : α → Bool) (of : α → List Int) (st : Int × List Int) (xs : List α) : Int × List Int := xs.foldl (putStep may of) st
theorem putAll_nil {α : Type} {may : α → Bool} {of : α → List Int} {st : Int × List Int} : putAll may of st [] = st := rfl
theorem putAll_cons {α : Type} {may : α → Bool} {of : α → List Int} {st : Int × List Int} {x : α} {xs : List α} : putAll may of st (x :: xs) = putAll may of (putStep may of st x) xs := rfl
theorem putStep_err {α : Type} {may : α → Bool} {of : α → List Int} {st : Int × List Int} (h : st.1 ≠ 0) (x : α) : putStep may of st x = st := by unfold putStep; rw [if_pos h]
theorem putAll_err {α : Type} {may : α → Bool} {of : α → List Int} {st : Int × List Int} (h : st.1 ≠ 0) : ∀ xs : List α, putAll may of st xs = st
  | [] => rfl
  | x :: xs => by rw [putAll_cons, putStep_err h, putAll_err h xs]

def fourB (n : Int) : List Int := [IntKind.u8.wrap (Int.fdiv n 16777216), IntKind.u8.wrap (Int.fdiv n 65536), IntKind.u8.wrap (Int.fdiv n 256), IntKind.u8.wrap n]
def runB (b : List Int) : List Int := fourB (b.length : Nat) ++ b
theorem fourB_length (n : Int) : (fourB n).length = 4 := rfl

/-! ### Writers -/

/-- A writer: its place, what spoilt it, its bytes. -/
def WrC (g : GH) (kp kb p : Nat) (e : Int) (bs : List Int) : Prop :=
  ∃ s : Sl, BlkC g kp p #[.bool true, .int .i64 e, .slice s.a s.n s.c] T.codec_Writer ∧ OwnC T.uint8 1 g kb s (bs.map byV) ∧ bs.length ≤ 65536
theorem WrC.mv {K : List Nat} {g g' : GH} {kp kb p : Nat} {e : Int} {bs : List Int} (r : WrC g kp kb p e bs) (m : Mv K g g') (h1 : kp ∉ K) (h2 : kb ∉ K) : WrC g' kp kb p e bs := by
  obtain ⟨s, b, o, r⟩ := r
  exact ⟨s, b.mv m h1, o.mv m h2, r⟩
theorem WrC.via {K : List Nat} {g q : GH} {kp kb p : Nat} {e : Int} {bs : List Int} (r : WrC q kp kb p e bs) (m : Mv K g.base q) (h1 : kp ≠ 0) (h2 : kb ≠ 0) (φ : Nat → Nat) : WrC (g.via q φ) (φ kp) (φ kb) p e bs := by
  obtain ⟨s, b, o, r⟩ := r
  exact ⟨s, b.via m h1 φ, o.via m h2 φ, r⟩
theorem WrC.re {K : List Nat} {g q : GH} {kp kb p : Nat} {e : Int} {bs : List Int} (r : WrC q kp kb p e bs) (m : Mv K g q) {φ : Nat → Nat} (h1 : φ kp = kp ∨ Fresh g kp) (h2 : φ kb = kb ∨ Fresh g kb) : WrC (g.via q φ) (φ kp) (φ kb) p e bs := by
  obtain ⟨s, b, o, r⟩ := r
  exact ⟨s, b.re m h1, o.re m h2, r⟩
theorem WrC.base {g : GH} {kp kb p : Nat} {e : Int} {bs : List Int} (r : WrC g kp kb p e bs) : WrC g.base 0 0 p e bs := by
  obtain ⟨s, b, o, r⟩ := r
  exact ⟨s, b.base, o.base, r⟩

theorem codecNew_spec (g : GH) (kp kb : Nat) {R : Value → Heap → Prop} (H : ∀ (p : Nat) (g' : GH), Mv [] g g' → WrC g' kp kb p 0 [] → R (.pointer (some ⟨p, 0, none⟩)) g'.h) : HC Try.prog F.codec_New #[] R g.h := by
  refine codec_New.calls ?_
  unfold codec_New.body
  refine ⟨#[.bool true, .int .i64 0], fun w => by kernel_rfl, #[.bool true, .int .i64 0, .slice none 0 0], fun w => by kernel_rfl, ?_⟩
  refine new_C g kp fun p g1 m1 b1 => ?_
  exact H p g1 m1 ⟨⟨none, 0, 0⟩, b1, OwnC.nil _ _ _ _, by simp⟩

theorem sound_spec {g : GH} {c b : Nat} {cells : Array Value} {t : TypeId} {n : Int} (hb : BlkC g c b cells t) (hx : cells[1]? = some (.int .i64 n)) {R : Value → Heap → Prop} (H : R (.bool (n == 0)) g.h) : HC Try.prog F.codec_state_sound #[.pointer (some ⟨b, 0, none⟩)] R g.h := by
  refine codec_state_sound.calls ?_
  unfold codec_state_sound.body
  rw [derefK_some, fldK_some, Nat.zero_add, loadK_C hb]
  exact ⟨n, hx, H⟩

theorem spoil_spec {g : GH} {c b : Nat} {cells : Array Value} {t : TypeId} (hb : BlkC g c b cells t) (hx : cells[1]? = some (.int .i64 0)) (e : Int) {R : Value → Heap → Prop}
    (H : ∀ g' : GH, Mv [c] g g' → BlkC g' c b (cells.setIfInBounds 1 (.int .i64 e)) t → R (.int .i64 e) g'.h) : HC Try.prog F.codec_state_spoil #[.pointer (some ⟨b, 0, none⟩), .int .i64 e] R g.h := by
  refine codec_state_spoil.calls ?_
  unfold codec_state_spoil.body
  have hlt : 1 < cells.size := (Array.getElem?_eq_some_iff.1 hx).1
  refine joinW_intro (fun _ h' => ∃ q : GH, h' = q.h ∧ Mv [c] g q ∧ BlkC q c b (cells.setIfInBounds 1 (.int .i64 e)) t) ?_ ?_
  · intro J hJ
    rw [derefK_some, fldK_some, Nat.zero_add, loadK_C hb]
    refine ⟨0, hx, ?_⟩
    rw [if_pos (by rfl), derefK_some, fldK_some, Nat.zero_add]
    exact store_C hb hlt rfl fun g1 m1 b1 => hJ _ _ ⟨g1, rfl, m1, b1⟩
  · rintro _ _ ⟨q, rfl, m, hq⟩
    rw [derefK_some, fldK_some, Nat.zero_add, loadK_C hq]
    exact ⟨e, by simp [hlt, Kd.inj], H q m hq⟩

theorem bytes4_spec (q : GH) (k : Nat) (x : Int) {R : Value → Heap → Prop} (H : ∀ (s : Sl) (q' : GH), Mv [] q q' → OwnC T.uint8 1 q' k s ((fourB x).map byV) → R (.slice s.a s.n s.c) q'.h) : HC Try.prog F.codec_bytes4 #[.int .i64 x] R q.h := by
  refine codec_bytes4.calls ?_
  unfold codec_bytes4.body
  refine ⟨by decide, by decide, by decide, ?_⟩
  exact newSl_C q k rfl fun s q' m o hn hc => H s q' m o
/-- A tag's bytes. -/
def tagB (t : List Int) : List Int := t
/-- No rule. -/
def yes {α : Type} (_ : α) : Bool := true

theorem ofTag_spec (q : GH) (k : Nat) (t : List Int) (ht : t.length = 32) {R : Value → Heap → Prop} (H : ∀ (s : Sl) (q' : GH), Mv [] q q' → RdC 1 q' k s ((tagB t).map byV) → R (.slice s.a s.n s.c) q'.h) : HC Try.prog F.codec_Writer_Tag_1 #[.agg (tagA t)] R q.h := by
  refine codec_Writer_Tag_1.calls ?_
  unfold codec_Writer_Tag_1.body
  refine new_C q k fun p q' m b => ?_
  refine sliceArr_C 0 32 rfl rfl (by decide) ?_
  exact H _ q' m (by rw [Nat.zero_mul]; exact blkRd b (by simp [tagB, ht]))

theorem putTag_spec {g : GH} {kp kb c p : Nat} {e : Int} {bs : List Int} (hk : kp ≠ kb) (hcp : c ≠ kp) (hcb : c ≠ kb) (hw : WrC g kp kb p e bs) (v : Sl) (xs : List (List Int)) (hr : SlC g c ShTag v xs) (hl : xs.length ≤ 1000000000) {R : Value → Heap → Prop}
    (H : ∀ g' : GH, Mv [kp, kb] g g' → WrC g' kp kb p (putAll yes tagB (e, bs) xs).1 (putAll yes tagB (e, bs) xs).2 → R (.int .i64 (putAll yes tagB (e, bs) xs).1) g'.h) :
    HC Try.prog F.codec_put_api_Tag #[.pointer (some ⟨p, 0, none⟩), .agg #[.nilFunc, .func (.func F.codec_Writer_Tag_1) #[] #[]], .slice v.a v.n v.c] R g.h := by
  refine codec_put_api_Tag.calls (l2 := v) ?_
  unfold codec_put_api_Tag.body
  have hn := hr.len
  obtain ⟨x, hxp, hxb⟩ : ∃ x, x ≠ kp ∧ x ≠ kb := ⟨kp + kb + 1, by omega, by omega⟩
  have m : Mv [kp, kb] g g := Mv.refl _ _
  refine new_C g x fun rp q1 m1 b1 => ?_
  replace m := m.step m1 (by simp [hk, Ne.symm hk, hcp, hcb, hxp, hxb])
  replace hr := hr.mv m1 (by simp [hk, Ne.symm hk, hcp, hcb, hxp, hxb])
  replace hw := hw.mv m1 (by simp [hk, Ne.symm hk, hcp, hcb, hxp, hxb]) (by simp [hk, Ne.symm hk, hcp, hcb, hxp, hxb])
  have hw' := hw
  obtain ⟨s0, hb, ho, hbl⟩ := hw
  simp only [derefK_some, fldK_some, Nat.zero_add, Nat.add_zero, Nat.reduceAdd, inj_int, inj_bool, inj_str, inj_ptr, inj_map, inj_slice, exists_eq_left, List.getElem?_toArray, List.getElem?_cons_zero, List.getElem?_cons_succ, Option.isNone_some, Option.isNone_none, Bool.not_true, Bool.not_false, Bool.false_eq_true, if_true, if_false, reduceIte, eq_self, not_true_eq_false, not_false_eq_true, bne_self_eq_false, beq_self_eq_true, decide_true, decide_false, decide_eq_true_eq, beq_iff_eq, bne_iff_ne, ne_eq, loadK_C hb]
  clear hb ho hbl s0
  refine joinW_intro (fun _ h' => ∃ q : GH, h' = q.h ∧ Mv [kp, kb] g q ∧ WrC q kp kb p (putAll yes tagB (e, bs) xs).1 (putAll yes tagB (e, bs) xs).2) ?_ ?_
  · intro J hJ
    refine loopW_rule (fun st h' => ∃ (i : Nat) (q : GH) (e' : Int) (bs' : List Int), i ≤ xs.length ∧ st = (i : Int) ∧ h' = q.h ∧ Mv [kp, kb] g q ∧ Mv [kp, kb] q1 q ∧ WrC q kp kb p e' bs' ∧ putAll yes tagB (e, bs) xs = putAll yes tagB (e', bs') (xs.drop i)) (fun st => xs.length - st.toNat)
      ⟨0, q1, e, bs, by omega, rfl, rfl, m, Mv.refl _ _, hw', by simp⟩ ?_
    rintro X _ _ ⟨i, q, e', bs', hi, rfl, rfl, m, m', hw, hput⟩ hX
    have hrq := hr.mv m' (by simp [hcp, hcb])
    have b1q := b1.mv m' (by simp [hxp, hxb])
    by_cases hlt : i < xs.length
    · rw [if_pos (by omega)]
      refine hrq.idx (by kernel_rfl) (by decide) hlt fun b0 o0 cs hcs lay => ?_
      obtain ⟨ecs, okx⟩ := LayC.enc (s := ShTag) rfl lay
      rw [encTag] at ecs
      subst ecs
      have hzl : (xs[i]).length = 32 := okx.1
      refine loadAggK_cells (j := 0) hcs rfl (by rw [szTag]; decide) (by rw [szTag]; simp [hzl]) ?_
      have hcell : (⟨((xs[i].map byV).drop 0).take (sizeOfT Try.prog T.api_Tag)⟩ : Array Value) = tagA xs[i] := by
        rw [szTag, List.drop_zero, List.take_of_length_le (by simp [hzl])]
      rw [hcell, zTag]
      refine newStore_C q x (by rw [szTag]; simp [hzl]) (by rw [szTag]; simp) (oneBy _) fun zp q0 m0 bz => ?_
      replace m := m.step m0 (by simp [hk, Ne.symm hk, hcp, hcb, hxp, hxb])
      replace b1q := b1q.mv m0 (by simp [hk, Ne.symm hk, hcp, hcb, hxp, hxb])
      replace hw := hw.mv m0 (by simp [hk, Ne.symm hk, hcp, hcb, hxp, hxb]) (by simp [hk, Ne.symm hk, hcp, hcb, hxp, hxb])
      replace m' := m'.step m0 (by simp)
      have hw0 := hw
      obtain ⟨s0, hb, ho, hbl⟩ := hw
      have hs0 := ho.len
      simp only [List.length_map] at hs0
      rw [List.drop_eq_getElem_cons hlt, putAll_cons] at hput
      generalize hz : xs[i] = z at hput bz hzl
      refine sound_spec hb (by rfl) ⟨_, rfl, ?_⟩
      dsimp only
      by_cases he : e' = 0
      · subst he
        rw [if_neg (by simp)]
        refine joinW_intro (fun b h' => b = !(yes z) ∧ h' = q0.h) ?_ ?_
        · intro J2 hJ2
          rw [loadK_C b1q]
          refine ⟨_, rfl, false, fun w => by kernel_rfl, ?_⟩
          dsimp only
          rw [if_neg (by simp)]
          exact hJ2 _ _ ⟨rfl, rfl⟩
        · rintro _ _ ⟨rfl, rfl⟩
          by_cases hz1 : yes z = true
          · rw [if_neg (by simp [hz1]), loadK_C b1q]
            refine ⟨_, rfl, ?_⟩
            refine loadAgg_whole bz (tagA_size hzl) (.inl ⟨_, _, _, rfl, ?_⟩)
            obtain ⟨y, hyp, hyb⟩ : ∃ y, y ≠ kp ∧ y ≠ kb := ⟨kp + kb + 1, by omega, by omega⟩
            refine ofTag_spec q0 y z hzl fun s2 q2 m2 o2 => ⟨_, rfl, ?_⟩
            have hof2 : (tagB z).length = 32 := hzl
            have hn2 := o2.len
            simp only [List.length_map] at hn2
            replace m := m.step m2 (by simp [hk, Ne.symm hk, hcp, hcb, hxp, hxb])
            replace hb := hb.mv m2 (by simp [hk, Ne.symm hk, hcp, hcb, hxp, hxb])
            replace ho := ho.mv m2 (by simp [hk, Ne.symm hk, hcp, hcb, hxp, hxb])
            replace m' := m'.step m2 (by simp)
            dsimp only
            rw [loadK_C hb]
            refine ⟨_, rfl, ?_⟩
            try dsimp only
            rw [wrapI64 (by omega) (by omega)]
            by_cases hbig : 65536 < bs'.length + (tagB z).length
            · rw [if_pos (by simp; omega)]
              refine spoil_spec hb rfl 3 fun q3 m3 b3 => ⟨_, rfl, ?_⟩
              replace m := m.step m3 (by simp [hk, Ne.symm hk, hcp, hcb, hxp, hxb])
              replace ho := ho.mv m3 (by simp [hk, Ne.symm hk, hcp, hcb, hxp, hxb])
              have hst : putStep yes tagB (0, bs') z = (3, bs') := by simp [putStep, hz1, hbig]
              rw [hput, hst, putAll_err (by simp)] at H
              exact H q3 m ⟨s0, b3, ho, hbl⟩
            · rw [if_neg (by simp; omega), loadK_C hb]
              refine ⟨_, rfl, ?_⟩
              try dsimp only
              refine append_C (e := T.uint8) (e2 := T.uint8) (sz := 1) (by_ := 1) (z := .int .u8 0) (by kernel_rfl) (by kernel_rfl) (by kernel_rfl) rfl (by omega) ho o2.rd (oneBy _) (by omega) fun s3 q3 m3 o3 hn3 _ => ?_
              replace m := m.step m3 (by simp [hk, Ne.symm hk, hcp, hcb, hxp, hxb])
              replace hb := hb.mv m3 (by simp [hk, Ne.symm hk, hcp, hcb, hxp, hxb])
              replace m' := m'.step m3 (by simp)
              refine store_C hb (by simp) rfl fun q4 m4 b4 => ?_
              replace m := m.step m4 (by simp [hk, Ne.symm hk, hcp, hcb, hxp, hxb])
              replace o3 := o3.mv m4 (by simp [hk, Ne.symm hk, hcp, hcb, hxp, hxb])
              replace m' := m'.step m4 (by simp)
              rw [wrapSucc (by omega)]
              have hst : putStep yes tagB (0, bs') z = (0, bs' ++ tagB z) := by simp [putStep, hz1, hbig]
              rw [hst] at hput
              exact hX _ _ ⟨i + 1, q4, 0, bs' ++ tagB z, by omega, rfl, rfl, m, m', ⟨s3, b4, by rw [List.map_append]; exact o3, by rw [List.length_append]; omega⟩, hput⟩ (by simp; omega)
          · have hz2 : yes z = false := by simpa using hz1
            rw [if_pos (by simp [hz2])]
            refine spoil_spec hb rfl 2 fun q3 m3 b3 => ⟨_, rfl, ?_⟩
            replace m := m.step m3 (by simp [hk, Ne.symm hk, hcp, hcb, hxp, hxb])
            replace ho := ho.mv m3 (by simp [hk, Ne.symm hk, hcp, hcb, hxp, hxb])
            have hst : putStep yes tagB (0, bs') z = (2, bs') := by simp [putStep, hz2]
            rw [hput, hst, putAll_err (by simp)] at H
            exact H q3 m ⟨s0, b3, ho, hbl⟩
      · rw [if_pos (by simpa using he)]
        rw [hput, putStep_err he, putAll_err he] at hJ
        exact hJ _ _ ⟨q0, rfl, m, hw0⟩
    · rw [if_neg (by omega)]
      rw [List.drop_eq_nil_of_le (by omega), putAll_nil] at hput
      rw [hput] at hJ
      exact hJ _ _ ⟨q, rfl, m, hw⟩
  · rintro _ _ ⟨q, rfl, m, hw⟩
    have hw' := hw
    obtain ⟨s0, hb, ho, hbl⟩ := hw
    simp only [derefK_some, fldK_some, Nat.zero_add, Nat.add_zero, Nat.reduceAdd, inj_int, inj_bool, inj_str, inj_ptr, inj_map, inj_slice, exists_eq_left, List.getElem?_toArray, List.getElem?_cons_zero, List.getElem?_cons_succ, Option.isNone_some, Option.isNone_none, Bool.not_true, Bool.not_false, Bool.false_eq_true, if_true, if_false, reduceIte, eq_self, not_true_eq_false, not_false_eq_true, bne_self_eq_false, beq_self_eq_true, decide_true, decide_false, decide_eq_true_eq, beq_iff_eq, bne_iff_ne, ne_eq, loadK_C hb]
    exact H q m hw'

theorem ofRun_spec (q : GH) (k : Nat) {c : Nat} (v : Sl) (b : List Int) (hr : RdC 1 q c v (b.map byV)) (hc : v.n ≤ v.c) (hl : b.length ≤ 90000000) {R : Value → Heap → Prop} (H : ∀ (s : Sl) (q' : GH), Mv [] q q' → OwnC T.uint8 1 q' k s ((runB b).map byV) → R (.slice s.a s.n s.c) q'.h) : HC Try.prog F.codec_Writer_Run_1 #[.slice v.a v.n v.c] R q.h := by
  refine codec_Writer_Run_1.calls (b0 := v) ?_
  unfold codec_Writer_Run_1.body
  have hn := hr.len
  simp only [List.length_map] at hn
  have m : Mv [0] q.base q.base := Mv.refl _ _
  refine bytes4_spec q.base 0 (v.n : Int) fun s1 q1 m1 o1 => ⟨_, rfl, ?_⟩
  have m0 := m1
  try dsimp only
  refine newSl_C q1 0 rfl fun s2 q2 m2 o2 hn2 hc2 => ?_
  replace m0 := m0.step m2 (by simp)
  have hr2 := hr.arg m0 (by simp)
  refine concat_spec q2 1 s2 [fourB (v.n : Int), b] (RowsC.two o2.rd (o1.mv m2 (by simp)).rd o1.cap hr2 hc) (by simp [total, fourB]; omega) (by simp) fun s3 q3 m3 o3 => ⟨_, rfl, ?_⟩
  replace m0 := m0.step m3 (by simp)
  have o4 := o3.out m0 (by simp) k
  rw [hn] at o4
  exact H s3 (q.to q3.h k) (GH.to_ext k (m0.ext (by simp))) (by simpa [runB] using o4)

theorem putRun_spec {g : GH} {kp kb c p : Nat} {e : Int} {bs : List Int} (hk : kp ≠ kb) (hcp : c ≠ kp) (hcb : c ≠ kb) (hw : WrC g kp kb p e bs) (v : Sl) (xs : List (List Int)) (hr : RowsC g c v xs) (hxl : ∀ x ∈ xs, x.length ≤ 90000000) (hl : xs.length ≤ 1000000000) {R : Value → Heap → Prop}
    (H : ∀ g' : GH, Mv [kp, kb] g g' → WrC g' kp kb p (putAll yes runB (e, bs) xs).1 (putAll yes runB (e, bs) xs).2 → R (.int .i64 (putAll yes runB (e, bs) xs).1) g'.h) :
    HC Try.prog F.codec_put_byte #[.pointer (some ⟨p, 0, none⟩), .agg #[.nilFunc, .func (.func F.codec_Writer_Run_1) #[] #[]], .slice v.a v.n v.c] R g.h := by
  refine codec_put_byte.calls (l2 := v) ?_
  unfold codec_put_byte.body
  have hn := hr.len
  obtain ⟨x, hxp, hxb⟩ : ∃ x, x ≠ kp ∧ x ≠ kb := ⟨kp + kb + 1, by omega, by omega⟩
  have m : Mv [kp, kb] g g := Mv.refl _ _
  refine new_C g x fun rp q1 m1 b1 => ?_
  replace m := m.step m1 (by simp [hk, Ne.symm hk, hcp, hcb, hxp, hxb])
  replace hr := hr.mv m1 (by simp [hk, Ne.symm hk, hcp, hcb, hxp, hxb])
  replace hw := hw.mv m1 (by simp [hk, Ne.symm hk, hcp, hcb, hxp, hxb]) (by simp [hk, Ne.symm hk, hcp, hcb, hxp, hxb])
  have hw' := hw
  obtain ⟨s0, hb, ho, hbl⟩ := hw
  simp only [derefK_some, fldK_some, Nat.zero_add, Nat.add_zero, Nat.reduceAdd, inj_int, inj_bool, inj_str, inj_ptr, inj_map, inj_slice, exists_eq_left, List.getElem?_toArray, List.getElem?_cons_zero, List.getElem?_cons_succ, Option.isNone_some, Option.isNone_none, Bool.not_true, Bool.not_false, Bool.false_eq_true, if_true, if_false, reduceIte, eq_self, not_true_eq_false, not_false_eq_true, bne_self_eq_false, beq_self_eq_true, decide_true, decide_false, decide_eq_true_eq, beq_iff_eq, bne_iff_ne, ne_eq, loadK_C hb]
  clear hb ho hbl s0
  refine joinW_intro (fun _ h' => ∃ q : GH, h' = q.h ∧ Mv [kp, kb] g q ∧ WrC q kp kb p (putAll yes runB (e, bs) xs).1 (putAll yes runB (e, bs) xs).2) ?_ ?_
  · intro J hJ
    refine loopW_rule (fun st h' => ∃ (i : Nat) (q : GH) (e' : Int) (bs' : List Int), i ≤ xs.length ∧ st = (i : Int) ∧ h' = q.h ∧ Mv [kp, kb] g q ∧ Mv [kp, kb] q1 q ∧ WrC q kp kb p e' bs' ∧ putAll yes runB (e, bs) xs = putAll yes runB (e', bs') (xs.drop i)) (fun st => xs.length - st.toNat)
      ⟨0, q1, e, bs, by omega, rfl, rfl, m, Mv.refl _ _, hw', by simp⟩ ?_
    rintro X _ _ ⟨i, q, e', bs', hi, rfl, rfl, m, m', hw, hput⟩ hX
    have hrq := hr.mv m' (by simp [hcp, hcb])
    have b1q := b1.mv m' (by simp [hxp, hxb])
    by_cases hlt : i < xs.length
    · rw [if_pos (by omega)]
      refine hrq.idx (by kernel_rfl) hlt fun s1 r1 c1 => ?_
      have hzl := hxl _ (List.getElem_mem hlt)
      have hw0 := hw
      obtain ⟨s0, hb, ho, hbl⟩ := hw
      have hs0 := ho.len
      simp only [List.length_map] at hs0
      rw [List.drop_eq_getElem_cons hlt, putAll_cons] at hput
      generalize hz : xs[i] = z at hput r1 hzl
      refine sound_spec hb (by rfl) ⟨_, rfl, ?_⟩
      dsimp only
      by_cases he : e' = 0
      · subst he
        rw [if_neg (by simp)]
        refine joinW_intro (fun b h' => b = !(yes z) ∧ h' = q.h) ?_ ?_
        · intro J2 hJ2
          rw [loadK_C b1q]
          refine ⟨_, rfl, false, fun w => by kernel_rfl, ?_⟩
          dsimp only
          rw [if_neg (by simp)]
          exact hJ2 _ _ ⟨rfl, rfl⟩
        · rintro _ _ ⟨rfl, rfl⟩
          by_cases hz1 : yes z = true
          · rw [if_neg (by simp [hz1]), loadK_C b1q]
            refine ⟨_, rfl, ?_⟩
            refine .inl ⟨_, _, _, rfl, ?_⟩
            obtain ⟨y, hyp, hyb⟩ : ∃ y, y ≠ kp ∧ y ≠ kb := ⟨kp + kb + 1, by omega, by omega⟩
            refine ofRun_spec q y s1 z r1 c1 hzl fun s2 q2 m2 o2 => ⟨_, rfl, ?_⟩
            have hof2 : (runB z).length = z.length + 4 := by simp only [runB, List.length_append, fourB_length]; omega
            have hn2 := o2.len
            simp only [List.length_map] at hn2
            replace m := m.step m2 (by simp [hk, Ne.symm hk, hcp, hcb, hxp, hxb])
            replace hb := hb.mv m2 (by simp [hk, Ne.symm hk, hcp, hcb, hxp, hxb])
            replace ho := ho.mv m2 (by simp [hk, Ne.symm hk, hcp, hcb, hxp, hxb])
            replace m' := m'.step m2 (by simp)
            dsimp only
            rw [loadK_C hb]
            refine ⟨_, rfl, ?_⟩
            try dsimp only
            rw [wrapI64 (by omega) (by omega)]
            by_cases hbig : 65536 < bs'.length + (runB z).length
            · rw [if_pos (by simp; omega)]
              refine spoil_spec hb rfl 3 fun q3 m3 b3 => ⟨_, rfl, ?_⟩
              replace m := m.step m3 (by simp [hk, Ne.symm hk, hcp, hcb, hxp, hxb])
              replace ho := ho.mv m3 (by simp [hk, Ne.symm hk, hcp, hcb, hxp, hxb])
              have hst : putStep yes runB (0, bs') z = (3, bs') := by simp [putStep, hz1, hbig]
              rw [hput, hst, putAll_err (by simp)] at H
              exact H q3 m ⟨s0, b3, ho, hbl⟩
            · rw [if_neg (by simp; omega), loadK_C hb]
              refine ⟨_, rfl, ?_⟩
              try dsimp only
              refine append_C (e := T.uint8) (e2 := T.uint8) (sz := 1) (by_ := 1) (z := .int .u8 0) (by kernel_rfl) (by kernel_rfl) (by kernel_rfl) rfl (by omega) ho o2.rd.rd (oneBy _) (by omega) fun s3 q3 m3 o3 hn3 _ => ?_
              replace m := m.step m3 (by simp [hk, Ne.symm hk, hcp, hcb, hxp, hxb])
              replace hb := hb.mv m3 (by simp [hk, Ne.symm hk, hcp, hcb, hxp, hxb])
              replace m' := m'.step m3 (by simp)
              refine store_C hb (by simp) rfl fun q4 m4 b4 => ?_
              replace m := m.step m4 (by simp [hk, Ne.symm hk, hcp, hcb, hxp, hxb])
              replace o3 := o3.mv m4 (by simp [hk, Ne.symm hk, hcp, hcb, hxp, hxb])
              replace m' := m'.step m4 (by simp)
              rw [wrapSucc (by omega)]
              have hst : putStep yes runB (0, bs') z = (0, bs' ++ runB z) := by simp [putStep, hz1, hbig]
              rw [hst] at hput
              exact hX _ _ ⟨i + 1, q4, 0, bs' ++ runB z, by omega, rfl, rfl, m, m', ⟨s3, b4, by rw [List.map_append]; exact o3, by rw [List.length_append]; omega⟩, hput⟩ (by simp; omega)
          · have hz2 : yes z = false := by simpa using hz1
            rw [if_pos (by simp [hz2])]
            refine spoil_spec hb rfl 2 fun q3 m3 b3 => ⟨_, rfl, ?_⟩
            replace m := m.step m3 (by simp [hk, Ne.symm hk, hcp, hcb, hxp, hxb])
            replace ho := ho.mv m3 (by simp [hk, Ne.symm hk, hcp, hcb, hxp, hxb])
            have hst : putStep yes runB (0, bs') z = (2, bs') := by simp [putStep, hz2]
            rw [hput, hst, putAll_err (by simp)] at H
            exact H q3 m ⟨s0, b3, ho, hbl⟩
      · rw [if_pos (by simpa using he)]
        rw [hput, putStep_err he, putAll_err he] at hJ
        exact hJ _ _ ⟨q, rfl, m, hw0⟩
    · rw [if_neg (by omega)]
      rw [List.drop_eq_nil_of_le (by omega), putAll_nil] at hput
      rw [hput] at hJ
      exact hJ _ _ ⟨q, rfl, m, hw⟩
  · rintro _ _ ⟨q, rfl, m, hw⟩
    have hw' := hw
    obtain ⟨s0, hb, ho, hbl⟩ := hw
    simp only [derefK_some, fldK_some, Nat.zero_add, Nat.add_zero, Nat.reduceAdd, inj_int, inj_bool, inj_str, inj_ptr, inj_map, inj_slice, exists_eq_left, List.getElem?_toArray, List.getElem?_cons_zero, List.getElem?_cons_succ, Option.isNone_some, Option.isNone_none, Bool.not_true, Bool.not_false, Bool.false_eq_true, if_true, if_false, reduceIte, eq_self, not_true_eq_false, not_false_eq_true, bne_self_eq_false, beq_self_eq_true, decide_true, decide_false, decide_eq_true_eq, beq_iff_eq, bne_iff_ne, ne_eq, loadK_C hb]
    exact H q m hw'

/-! ### The writer's methods -/

theorem wTag_spec {g : GH} {kp kb c p : Nat} {e : Int} {bs : List Int} (hk : kp ≠ kb) (hcp : c ≠ kp) (hcb : c ≠ kb) (hw : WrC g kp kb p e bs) (v : Sl) (xs : List (List Int)) (hr : SlC g c ShTag v xs) (hl : xs.length ≤ 1000000000) {R : Value → Heap → Prop}
    (H : ∀ g' : GH, Mv [kp, kb] g g' → WrC g' kp kb p (putAll yes tagB (e, bs) xs).1 (putAll yes tagB (e, bs) xs).2 → R (.int .i64 (putAll yes tagB (e, bs) xs).1) g'.h) : HC Try.prog F.codec_Writer_Tag #[.pointer (some ⟨p, 0, none⟩), .slice v.a v.n v.c] R g.h := by
  refine codec_Writer_Tag.calls (l1 := v) ?_
  unfold codec_Writer_Tag.body
  refine ⟨#[.nilFunc, .func (.func F.codec_Writer_Tag_1) #[] #[]], fun w => by kernel_rfl, ?_⟩
  exact putTag_spec hk hcp hcb hw v xs hr hl fun g' m w => ⟨_, rfl, H g' m w⟩

theorem wRun_spec {g : GH} {kp kb c p : Nat} {e : Int} {bs : List Int} (hk : kp ≠ kb) (hcp : c ≠ kp) (hcb : c ≠ kb) (hw : WrC g kp kb p e bs) (v : Sl) (xs : List (List Int)) (hr : RowsC g c v xs) (hxl : ∀ x ∈ xs, x.length ≤ 90000000) (hl : xs.length ≤ 1000000000) {R : Value → Heap → Prop}
    (H : ∀ g' : GH, Mv [kp, kb] g g' → WrC g' kp kb p (putAll yes runB (e, bs) xs).1 (putAll yes runB (e, bs) xs).2 → R (.int .i64 (putAll yes runB (e, bs) xs).1) g'.h) : HC Try.prog F.codec_Writer_Run #[.pointer (some ⟨p, 0, none⟩), .slice v.a v.n v.c] R g.h := by
  refine codec_Writer_Run.calls (l1 := v) ?_
  unfold codec_Writer_Run.body
  refine ⟨#[.nilFunc, .func (.func F.codec_Writer_Run_1) #[] #[]], fun w => by kernel_rfl, ?_⟩
  exact putRun_spec hk hcp hcb hw v xs hr hxl hl fun g' m w => ⟨_, rfl, H g' m w⟩

theorem wOut_spec {g : GH} (c : Nat) {kp kb p : Nat} {e : Int} {bs : List Int} (hw : WrC g kp kb p e bs) {R : Value → Heap → Prop}
    (H1 : e = 0 → ∀ (s : Sl) (g' : GH), Mv [] g g' → OwnC T.uint8 1 g' c s (bs.map byV) → R (.tuple #[.slice s.a s.n s.c, .int .i64 0]) g'.h) (H2 : e ≠ 0 → R (.tuple #[.slice none 0 0, .int .i64 e]) g.h) : HC Try.prog F.codec_Writer_Out #[.pointer (some ⟨p, 0, none⟩)] R g.h := by
  refine codec_Writer_Out.calls ?_
  unfold codec_Writer_Out.body
  obtain ⟨s0, hb, ho, hbl⟩ := hw
  refine joinW_intro (fun b h' => b = false ∧ h' = g.h) ?_ ?_
  · intro J hJ
    simp only [derefK_some, fldK_some, Nat.zero_add, Nat.add_zero, Nat.reduceAdd, inj_int, inj_bool, inj_str, inj_ptr, inj_map, inj_slice, exists_eq_left, List.getElem?_toArray, List.getElem?_cons_zero, List.getElem?_cons_succ, Option.isNone_some, Option.isNone_none, Bool.not_true, Bool.not_false, Bool.false_eq_true, if_true, if_false, reduceIte, eq_self, not_true_eq_false, not_false_eq_true, bne_self_eq_false, beq_self_eq_true, decide_true, decide_false, decide_eq_true_eq, beq_iff_eq, bne_iff_ne, ne_eq, loadK_C hb]
    exact hJ _ _ ⟨rfl, rfl⟩
  · rintro _ _ ⟨rfl, rfl⟩
    simp only [derefK_some, fldK_some, Nat.zero_add, Nat.add_zero, Nat.reduceAdd, inj_int, inj_bool, inj_str, inj_ptr, inj_map, inj_slice, exists_eq_left, List.getElem?_toArray, List.getElem?_cons_zero, List.getElem?_cons_succ, Option.isNone_some, Option.isNone_none, Bool.not_true, Bool.not_false, Bool.false_eq_true, if_true, if_false, reduceIte, eq_self, not_true_eq_false, not_false_eq_true, bne_self_eq_false, beq_self_eq_true, decide_true, decide_false, decide_eq_true_eq, beq_iff_eq, bne_iff_ne, ne_eq, loadK_C hb]
    refine sound_spec hb rfl ⟨_, rfl, ?_⟩
    dsimp only
    by_cases he : e = 0
    · subst he
      rw [if_neg (by simp), loadK_C hb]
      refine ⟨_, rfl, ?_⟩
      exact CloneBytes_spec g c s0 bs ho.rd.rd (by omega) fun s' g' m o => ⟨_, rfl, H1 rfl s' g' m o⟩
    · rw [if_pos (by simpa using he), loadK_C hb]
      exact ⟨_, rfl, H2 he⟩

end Go.Proofs.Ytijipdaofojbiaa
