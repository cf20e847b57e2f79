/-
  The document's moves; what opens moves.
-/
import Derived.Test.YtijipdaofojbiaaKMove22
import Derived.Test.YtijipdaofojbiaaKRef18
set_option linter.unusedSimpArgs false
set_option linter.unusedVariables false
namespace Go.Proofs.Ytijipdaofojbiaa
open Go Go.Ev

set_option maxHeartbeats 1000000 in
theorem openMove_spec {g : GH} {c k p : Nat} (hck : ¬ c = k) {real : Bool} {seed : List Int} {asked : List ShThing.T} (x : MakC g c k p real seed asked) (t : List Int) (okt : ShTag.ok t) (game : List Int) (okg : ShTag.ok game) (number : Int) (mv : MoveT) (okm : ShMove.ok mv) (nonce : List Int) (okn : ShTag.ok nonce) {R : Value → Heap → Prop}
    (H : ∀ g' : GH, Mv [k] g g' → MakC g' c k p real seed (moveT22 real asked game number mv nonce).2.2 → R (.int .i64 (fitsT t (moveT22 real asked game number mv nonce).1 (moveT22 real asked game number mv nonce).2.1)) g'.h) :
    HC Try.prog F.commit_OpenMove #[.pointer (some ⟨p, 0, none⟩), .agg (tagA t), .agg (tagA game), .int .i64 number, .agg ⟨ShMove.enc mv⟩, .agg (tagA nonce)] R g.h := by
  refine commit_OpenMove.calls ?_
  unfold commit_OpenMove.body
  have htb := okTagB okt
  have hnb := okTagB okn
  have hgb := okTagB okg
  obtain ⟨y1, hy1, n1⟩ := fresh_exists g [c, k]
  simp only [List.mem_cons, List.mem_nil_iff, or_false, not_or] at n1
  have m := Mv.refl [k, y1] g
  refine new_C g y1 fun pm q1 m1 bm => ?_
  refine new_C q1 y1 fun pt q2 m2 bt => ?_
  refine new_C q2 y1 fun pg q3 m3 bg => ?_
  refine new_C q3 y1 fun pp q4 m4 bp => ?_
  refine new_C q4 y1 fun ps q5 m5 bs => ?_
  refine new_C q5 y1 fun pn q6 m6 bn => ?_
  replace m := (((((m.step m1 (by simp)).step m2 (by simp)).step m3 (by simp)).step m4 (by simp)).step m5 (by simp)).step m6 (by simp)
  have bm6 := ((((bm.mv m2 (by simp)).mv m3 (by simp)).mv m4 (by simp)).mv m5 (by simp)).mv m6 (by simp)
  have bt6 := (((bt.mv m3 (by simp)).mv m4 (by simp)).mv m5 (by simp)).mv m6 (by simp)
  have bg6 := ((bg.mv m4 (by simp)).mv m5 (by simp)).mv m6 (by simp)
  have bp6 := (bp.mv m5 (by simp)).mv m6 (by simp)
  have bs6 := bs.mv m6 (by simp)
  have x6 := (((((x.mv m1 (by simp) (by simp)).mv m2 (by simp) (by simp)).mv m3 (by simp) (by simp)).mv m4 (by simp) (by simp)).mv m5 (by simp) (by simp)).mv m6 (by simp) (by simp)
  refine loadAgg_whole bt6 (tagA_size htb.1) ?_
  have htag : (moveT22 real asked game number mv nonce).1.length = 32 ∧ ∀ x ∈ (moveT22 real asked game number mv nonce).1, isByte x := someT_tag _ _ _ _ _
  refine opened_spec (c := c) (k := k) (p := p) (real := real) (seed := seed) (B := (moveT22 real asked game number mv nonce).2.2) (e := (moveT22 real asked game number mv nonce).2.1) okt htag hck _ _ (fun q mq R' hR' => ?_) fun q7 m7 x7 => ⟨_, rfl, ?_⟩
  · show HC Try.prog F.commit_OpenMove_1 #[.pointer (some ⟨pm, 0, none⟩), .pointer (some ⟨pg, 0, none⟩), .pointer (some ⟨pp, 0, none⟩), .pointer (some ⟨ps, 0, none⟩), .pointer (some ⟨pn, 0, none⟩)] R' q.h
    refine commit_OpenMove_1.calls ?_
    unfold commit_OpenMove_1.body
    obtain ⟨z, hz, nz⟩ := fresh_exists q [c, k, y1]
    simp only [List.mem_cons, List.mem_nil_iff, or_false, not_or] at nz
    rw [zTag]
    refine new_C q z fun pz q8 m8 bz => ?_
    rw [loadK_C ((bm6.mv mq (by simp)).mv m8 (by simp))]
    refine ⟨some ⟨p, 0, none⟩, rfl, ?_⟩
    refine loadAgg_whole ((bg6.mv mq (by simp)).mv m8 (by simp)) (tagA_size hgb.1) ?_
    rw [loadK_C ((bp6.mv mq (by simp)).mv m8 (by simp))]
    refine ⟨number, rfl, ?_⟩
    refine loadAgg_whole ((bs6.mv mq (by simp)).mv m8 (by simp)) (by kernel_rfl) ?_
    refine loadAgg_whole ((bn.mv mq (by simp)).mv m8 (by simp)) (tagA_size hnb.1) ?_
    refine move22_spec hck ((x6.mv mq (by simp) (by simp)).mv m8 (by simp) (by simp)) game okg number mv okm nonce okn fun q9 m9 x9 => ⟨(_, _), rfl, ?_⟩
    try dsimp only
    refine result_C (n := 32) szTag dTag (bz.mv m9 (by simp [nz.2.1])) (by simp) (by simp [htag.1]) (fun v hv => oneBy _ v hv) fun q10 m10 => ?_
    have M : Mv [k, z] q q10 := ((Mv.mono m8 (L := [k, z]) (by simp)).step m9 (by simp)).step m10 (by simp)
    refine hR' (q.via q10 id) (M.re id fun j hj => ?_) ((x9.mv m10 (by simp [Ne.symm nz.1]) (by simp [Ne.symm nz.2.1])).re (φ := id) M (.inl rfl) (.inl rfl))
    simp only [List.mem_cons, List.mem_nil_iff, or_false] at hj
    rcases hj with rfl | rfl
    · exact .inl (by simp)
    · exact .inr hz
  · replace m := m.step m7 (by simp)
    refine H (g.via q7 id) (m.re id fun j hj => ?_) (x7.re (φ := id) m (.inl rfl) (.inl rfl))
    simp only [List.mem_cons, List.mem_nil_iff, or_false] at hj
    rcases hj with rfl | rfl
    · exact .inl (by simp)
    · exact .inr hy1

end Go.Proofs.Ytijipdaofojbiaa
