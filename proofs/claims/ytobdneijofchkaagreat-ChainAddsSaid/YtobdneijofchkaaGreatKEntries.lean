/-
  Rows of entries, of tags: cloned, held against each other.
-/
import Derived.Test.YtobdneijofchkaaGreatKApi
import Derived.Test.YtobdneijofchkaaGreatKFlat
set_option linter.unusedSimpArgs false
set_option linter.unusedVariables false
namespace Go.Proofs.YtobdneijofchkaaGreat
open Go Go.Ev

theorem noEntries (W : World) : (Instr.buildSlice T.sl_api_Entry 0 #[]).run Tryz.prog W = .ok (.slice (some ⟨W.heap.size, 0, none⟩) 0 0) { W with heap := W.heap.push (.cells #[] T.api_Entry (0, 0)) } := by kernel_rfl
theorem noTags (W : World) : (Instr.buildSlice T.sl_api_Tag 0 #[]).run Tryz.prog W = .ok (.slice (some ⟨W.heap.size, 0, none⟩) 0 0) { W with heap := W.heap.push (.cells #[] T.api_Tag (0, 0)) } := by kernel_rfl

theorem cloneEntries_spec (g : GH) (c : Nat) {d : Nat} (v : Sl) (xs : List EntryT) (hr : SlC g d ShEntry v xs) (hl : xs.length ≤ 900000000) {R : Value → Heap → Prop}
    (H : ∀ (s : Sl) (g' : GH), Mv [] g g' → OwnF T.api_Entry ShEntry g' c s xs → R (.slice s.a s.n s.c) g'.h) : HC Tryz.prog F.slices_Clone_api_Entry_api_Entry #[.slice v.a v.n v.c] R g.h := by
  refine slices_Clone_api_Entry_api_Entry.calls (s0 := v) ?_
  unfold slices_Clone_api_Entry_api_Entry.body
  have hn := hr.len
  cases ha : v.a with
  | none =>
    rw [if_pos (by simp [ha])]
    have : xs = [] := by
      rcases (hr.rdF rfl).1.rd.2 with h | ⟨b, o, y, e, fz, h, _⟩
      · have h1 := encs_len (s := ShEntry) rfl (hr.rdF rfl).2
        rw [h] at h1
        have : (ShEntry).size = 135 := by decide
        rw [this] at h1
        exact List.length_eq_zero_iff.1 (by simp at h1; omega)
      · rw [ha] at h; cases h
    subst this
    exact H ⟨none, 0, 0⟩ g (Mv.refl _ _) (OwnF.nil _ _ _ _)
  | some a =>
    rw [if_neg (by simp [ha])]
    have m0 := Mv.refl [1] g.base
    refine buildSl_C (e := T.api_Entry) (sz := 135) g.base 1 _ noEntries rfl fun s1 q1 m1 o1 hn1 _ => ?_
    have o1' : OwnF T.api_Entry ShEntry q1 1 s1 [] := ⟨o1, by simp, hn1⟩
    rw [← ha]
    refine appendEntries_C o1' (hr.arg (m0.step m1 (by simp)) (by simp)) (by omega) fun s2 q2 m2 o2 => ?_
    have m := (m0.step m1 (by simp)).step m2 (by simp)
    exact H s2 (g.via q2 fun _ => c) (m.via (by simp) _) (o2.via m (by simp) _)

theorem cloneTags_spec (g : GH) (c : Nat) {d : Nat} (v : Sl) (xs : List (List Int)) (hr : SlC g d ShTag v xs) (hl : xs.length ≤ 900000000) {R : Value → Heap → Prop}
    (H : ∀ (s : Sl) (g' : GH), Mv [] g g' → OwnF T.api_Tag ShTag g' c s xs → R (.slice s.a s.n s.c) g'.h) : HC Tryz.prog F.slices_Clone_api_Tag_api_Tag #[.slice v.a v.n v.c] R g.h := by
  refine slices_Clone_api_Tag_api_Tag.calls (s0 := v) ?_
  unfold slices_Clone_api_Tag_api_Tag.body
  have hn := hr.len
  cases ha : v.a with
  | none =>
    rw [if_pos (by simp [ha])]
    have : xs = [] := by
      rcases (hr.rdF rfl).1.rd.2 with h | ⟨b, o, y, e, fz, h, _⟩
      · have h1 := encs_len (s := ShTag) rfl (hr.rdF rfl).2
        rw [h] at h1
        have : (ShTag).size = 32 := by decide
        rw [this] at h1
        exact List.length_eq_zero_iff.1 (by simp at h1; omega)
      · rw [ha] at h; cases h
    subst this
    exact H ⟨none, 0, 0⟩ g (Mv.refl _ _) (OwnF.nil _ _ _ _)
  | some a =>
    rw [if_neg (by simp [ha])]
    have m0 := Mv.refl [1] g.base
    refine buildSl_C (e := T.api_Tag) (sz := 32) g.base 1 _ noTags rfl fun s1 q1 m1 o1 hn1 _ => ?_
    have o1' : OwnF T.api_Tag ShTag q1 1 s1 [] := ⟨o1, by simp, hn1⟩
    rw [← ha]
    refine appendTags_C o1' (hr.arg (m0.step m1 (by simp)) (by simp)) (by omega) fun s2 q2 m2 o2 => ?_
    have m := (m0.step m1 (by simp)).step m2 (by simp)
    exact H s2 (g.via q2 fun _ => c) (m.via (by simp) _) (o2.via m (by simp) _)

theorem SameEntries_spec {g : GH} {c d : Nat} (a b : Sl) (xs ys : List EntryT) {R : Value → Heap → Prop} (ha : SlC g c ShEntry a xs) (hb : SlC g d ShEntry b ys)
    (H : R (.bool (decide (xs = ys))) g.h) : HC Tryz.prog F.kit_SameEntries #[.slice a.a a.n a.c, .slice b.a b.n b.c] R g.h := by
  refine kit_SameEntries.calls (a0 := a) (b1 := b) ?_
  unfold kit_SameEntries.body
  have hn := ha.len
  have hm := hb.len
  have hs := ha.small
  by_cases hlen : xs.length = ys.length
  · rw [if_neg (by simp [hn, hm, hlen])]
    refine loopW_rule (fun st h' => ∃ i : Nat, i ≤ xs.length ∧ st = (i : Int) ∧ g.h = h' ∧ xs.take i = ys.take i) (fun st => xs.length - st.toNat) ⟨0, by omega, rfl, rfl, rfl⟩ ?_
    rintro X _ _ ⟨i, hi, rfl, rfl, he⟩ hX
    by_cases hlt : i < xs.length
    · have hlt2 : i < ys.length := by omega
      rw [if_pos (by simp [hn, hlt])]
      refine ha.idxF rfl szF_Entry (by decide) hlt fun b1 o1 c1 ok1 l1 => loadF c1 szF_Entry (by decide) l1 ?_
      refine hb.idxF rfl szF_Entry (by decide) hlt2 fun b2 o2 c2 ok2 l2 => loadF c2 szF_Entry (by decide) l2 ?_
      refine neqF_Entry ok1 ok2 fun r hr => ?_
      by_cases hx : xs[i] = ys[i]
      · have : r = false := by cases r <;> simp_all
        subst this
        rw [if_neg (by simp), wrapSucc (by omega)]
        refine hX _ _ ⟨i + 1, by omega, rfl, rfl, ?_⟩ (by simp; omega)
        rw [List.take_succ_eq_append_getElem hlt, List.take_succ_eq_append_getElem hlt2, he, hx]
      · have : r = true := hr.2 hx
        subst this
        rw [if_pos rfl]
        have : ¬ xs = ys := fun e => hx (by subst e; rfl)
        simpa [this] using H
    · rw [if_neg (by simp [hn]; omega)]
      have h1 : i = xs.length := by omega
      subst h1
      rw [List.take_length, hlen, List.take_length] at he
      simpa [he] using H
  · rw [if_pos (by simp [hn, hm]; omega)]
    have : ¬ xs = ys := fun e => hlen (by rw [e])
    simpa [this] using H

end Go.Proofs.YtobdneijofchkaaGreat
