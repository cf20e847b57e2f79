/-
  Coins.
-/
import Derived.Test.YtijipdaofojbiaaKCommit
set_option linter.unusedSimpArgs false
set_option linter.unusedVariables false
namespace Go.Proofs.Ytijipdaofojbiaa
open Go Go.Ev

def someT (real : Bool) (asked : List ShThing.T) (is : Bool) (nonce : List Int) (rows : List (List Int)) : List Int × Int × List ShThing.T :=
  if is = true then coverT real asked nonce rows else (zero32, 2, asked)
theorem zero32_tag : zero32.length = 32 ∧ ∀ x ∈ zero32, isByte x := ⟨by simp [zero32], by simp [zero32, isByte]⟩
theorem someT_tag (real : Bool) (asked : List ShThing.T) (is : Bool) (nonce : List Int) (rows : List (List Int)) : (someT real asked is nonce rows).1.length = 32 ∧ ∀ x ∈ (someT real asked is nonce rows).1, isByte x := by
  unfold someT
  split
  · exact coverT_tag _ _ _ _
  · exact zero32_tag

set_option maxHeartbeats 1000000 in
theorem some_spec {g : GH} {c k p d : Nat} (hck : ¬ c = k) {real : Bool} {seed : List Int} {asked : List ShThing.T} (x : MakC g c k p real seed asked) (is : Bool) (nonce : List Int) (okn : ShTag.ok nonce) (v : Sl) (rows : List (List Int)) (hr : RowsC g d v rows) (hby : ∀ xs ∈ rows, ∀ x ∈ xs, isByte x) (hxl : ∀ x ∈ rows, x.length ≤ 90000000) (hl : rows.length ≤ 1000000000) {R : Value → Heap → Prop}
    (H : ∀ g' : GH, Mv [k] g g' → MakC g' c k p real seed (someT real asked is nonce rows).2.2 → R (.tuple #[.agg (tagA (someT real asked is nonce rows).1), .int .i64 (someT real asked is nonce rows).2.1]) g'.h) :
    HC Try.prog F.commit_some #[.pointer (some ⟨p, 0, none⟩), .bool is, .agg (tagA nonce), .slice v.a v.n v.c] R g.h := by
  refine commit_some.calls (rows3 := v) ?_
  unfold commit_some.body
  have htb := okTagB okn
  obtain ⟨y1, hy1, n1⟩ := fresh_exists g [c, k, d]
  obtain ⟨y2, hy2, n2⟩ := fresh_exists g [c, k, d, y1]
  simp only [List.mem_cons, List.mem_nil_iff, or_false, not_or] at n1 n2
  have m := Mv.refl [k, y1, y2] g
  refine new_C g y1 fun pn q1 e1 bn => ?_
  replace m := m.step e1 (by simp)
  replace x := x.mv e1 (by simp) (by simp)
  replace hr := hr.mv e1 (by simp)
  rw [zTag]
  refine new_C q1 y2 fun pt q2 e2 bt => ?_
  replace m := m.step e2 (by simp)
  replace x := x.mv e2 (by simp) (by simp)
  replace hr := hr.mv e2 (by simp)
  replace bn := bn.mv e2 (by simp)
  refine makCopy_spec x y1 y1 fun p' q3 e3 _ => ⟨_, rfl, ?_⟩
  replace m := m.step e3 (by simp)
  replace x := x.mv e3 (by simp) (by simp)
  replace hr := hr.mv e3 (by simp)
  replace bn := bn.mv e3 (by simp)
  replace bt := bt.mv e3 (by simp)
  try dsimp only
  rw [if_neg (by simp)]
  have hre : ∀ j ∈ [k, y1, y2], j ∈ [k] ∨ Fresh g j := by
    intro j hj
    simp only [List.mem_cons, List.mem_nil_iff, or_false] at hj
    rcases hj with rfl | rfl | rfl
    · exact .inl (by simp)
    · exact .inr hy1
    · exact .inr hy2
  cases is with
  | false =>
    rw [if_pos (by rfl)]
    have bt' : BlkC q3 y2 pt (tagA zero32) T.api_Tag := bt
    refine loadAgg_whole bt' (tagA_size zero32_tag.1) ?_
    refine result_C (n := 32) szTag dTag bt' (by simp [zero32]) (by simp [zero32]) (fun v hv => oneBy _ v hv) fun q10 e10 => ?_
    have M := m.step e10 (by simp)
    exact H (g.via q10 id) (M.re id hre) ((x.mv e10 (by simp [Ne.symm n2.1]) (by simp [Ne.symm n2.2.1])).re (φ := id) M (.inl rfl) (.inl rfl))
  | true =>
    rw [if_neg (by simp)]
    refine loadAgg_whole bn (tagA_size htb.1) ?_
    refine cover_spec hck x nonce okn v rows hr hby hxl hl fun q9 e9 x9 => ⟨(_, _), rfl, ?_⟩
    replace m := m.step e9 (by simp)
    try dsimp only
    refine result_C (n := 32) szTag dTag (bt.mv e9 (by simp [n2.2.1])) (by simp) (by simp [(coverT_tag _ _ _ _).1]) (fun v hv => oneBy _ v hv) fun q10 e10 => ?_
    have M := m.step e10 (by simp)
    exact H (g.via q10 id) (M.re id hre) ((x9.mv e10 (by simp [Ne.symm n2.1]) (by simp [Ne.symm n2.2.1])).re (φ := id) M (.inl rfl) (.inl rfl))

end Go.Proofs.Ytijipdaofojbiaa
