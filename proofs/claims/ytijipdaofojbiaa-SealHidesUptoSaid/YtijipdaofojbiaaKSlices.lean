/-
  Functions of the library's package slices, on bytes.
-/
import Derived.Test.YtijipdaofojbiaaKKit
import Derived.Test.YtijipdaofojbiaaGrow
set_option linter.unusedSimpArgs false
set_option linter.unusedVariables false
namespace Go.Proofs.Ytijipdaofojbiaa
open Go Go.Ev

theorem growBytes_spec (g : GH) (c n : Nat) (hn : n ≤ 1000000000) {R : Value → Heap → Prop} (H : ∀ (s' : Sl) (g' : GH), Mv [] g g' → OwnC T.uint8 1 g' c s' [] → R (.slice s'.a s'.n s'.c) g'.h) :
    HC Try.prog F.slices_Grow_byte_byte #[.slice none 0 0, .int .i64 (n : Int)] R g.h := by
  refine slices_Grow_byte_byte.calls (s0 := ⟨none, 0, 0⟩) ?_
  unfold slices_Grow_byte_byte.body
  rw [if_neg (by simp)]
  have h0 : IntKind.i64.wrap ((n : Int) - IntKind.i64.wrap (((0 : Nat) : Int) - ((0 : Nat) : Int))) = (n : Int) := by
    rw [wrapI64 (n := ((0 : Nat) : Int) - ((0 : Nat) : Int)) (by omega) (by omega), wrapI64 (by omega) (by omega)]; omega
  dsimp only
  rw [h0]
  by_cases hz : n = 0
  · subst hz
    rw [if_neg (by simp)]
    exact H ⟨none, 0, 0⟩ g (Mv.refl _ _) (OwnC.nil _ _ _ _)
  · rw [if_pos (by simp; omega)]
    refine slice_to (s := ⟨none, 0, 0⟩) (n := 0) (.inl rfl) rfl (Nat.le_refl _) ?_
    refine growNil_C (e := T.uint8) (by_ := 1) (z := .int .u8 0) (k := .i64) (by kernel_rfl) (by kernel_rfl) (by kernel_rfl) rfl (by omega) g c (by omega) hn fun s1 g1 m1 o1 hn1 => ?_
    refine slice_to (n := 0) o1.plain rfl (by omega) ?_
    have o2 := o1.take (n := 0) (k := s1.c) (by omega) (by omega) (Nat.le_refl _)
    exact H ⟨s1.a, 0, s1.c⟩ g1 m1 (by simpa using o2)

theorem concat_spec (g : GH) (c : Nat) {d : Nat} (v : Sl) (xss : List (List Int)) (hr : RowsC g d v xss) (ht : total xss ≤ 100000000) (hl : xss.length ≤ 1000000000) {R : Value → Heap → Prop}
    (H : ∀ (s : Sl) (g' : GH), Mv [] g g' → OwnC T.uint8 1 g' c s (xss.flatten.map byV) → R (.slice s.a s.n s.c) g'.h) : HC Try.prog F.slices_Concat_byte_byte #[.slice v.a v.n v.c] R g.h := by
  refine slices_Concat_byte_byte.calls (slices0 := v) ?_
  unfold slices_Concat_byte_byte.body
  have hn := hr.len
  refine loopW_rule (fun st h' => ∃ i : Nat, i ≤ xss.length ∧ st = ((total (xss.take i) : Int), (i : Int)) ∧ g.base.h = h') (fun st => xss.length - st.2.toNat) ⟨0, by omega, by simp [total], rfl⟩ ?_
  rintro X _ _ ⟨i, hi, rfl, rfl⟩ hX
  have hle := total_le (xss := xss) i
  dsimp only
  by_cases hlt : i < xss.length
  · rw [if_pos (by simp [hn]; omega)]
    refine hr.idx (by kernel_rfl) hlt fun s1 r1 _ => ?_
    have h1 := r1.len
    have h2 := total_take hlt
    have h3 := total_le (xss := xss) (i + 1)
    simp only [List.length_map] at h1
    rw [wrapI64 (n := (total (xss.take i) : Int) + (s1.n : Int)) (by omega) (by omega), if_neg (by simp; omega), wrapSucc (by omega)]
    exact hX _ _ ⟨i + 1, by omega, by rw [h2, h1]; simp, rfl⟩ (by simp; omega)
  · rw [if_neg (by simp [hn]; omega)]
    clear hX
    have hi' : i = xss.length := by omega
    subst hi'
    rw [List.take_length]
    refine growBytes_spec g.base 1 (total xss) (by omega) fun s2 q2 m2 o2 => ⟨_, rfl, ?_⟩
    dsimp only
    refine loopW_rule (fun st h' => ∃ (i : Nat) (s : Sl) (q : GH), i ≤ xss.length ∧ st = (s, (i : Int)) ∧ h' = q.h ∧ Mv [1] g.base q ∧ OwnC T.uint8 1 q 1 s ((xss.take i).flatten.map byV)) (fun st => xss.length - st.2.toNat)
      ⟨0, s2, q2, by omega, rfl, rfl, m2.mono (by simp), by simpa using o2⟩ ?_
    rintro X _ _ ⟨i, s, q, hi, rfl, rfl, m, o⟩ hX
    have hle := total_le (xss := xss) i
    dsimp only
    by_cases hlt : i < xss.length
    · rw [if_pos (by simp [hn]; omega)]
      refine (hr.arg m (by simp)).idx (by kernel_rfl) hlt fun s1 r1 _ => ?_
      have h1 := r1.len
      have h2 := total_take hlt
      have h3 := total_le (xss := xss) (i + 1)
      have h4 := o.len
      simp only [List.length_map] at h1 h4
      unfold total at *
      refine append_C (e := T.uint8) (e2 := T.uint8) (sz := 1) (by_ := 1) (z := .int .u8 0) (by kernel_rfl) (by kernel_rfl) (by kernel_rfl) rfl (by omega) o r1.rd (oneBy _) (by omega) fun s3 q3 m3 o3 hn3 _ => ?_
      rw [wrapSucc (by omega)]
      refine hX _ _ ⟨i + 1, s3, q3, by omega, rfl, rfl, m.step m3 (by simp), ?_⟩ (by simp; omega)
      rw [List.take_succ_eq_append_getElem hlt, List.flatten_append, List.map_append]
      simpa using o3
    · rw [if_neg (by simp [hn]; omega)]
      have hi' : i = xss.length := by omega
      subst hi'
      rw [List.take_length] at o
      exact H s (g.via q fun _ => c) (m.via (by simp) _) (o.via m (by simp) _)

end Go.Proofs.Ytijipdaofojbiaa
