/-
  The document's covers; what opens them.
-/
import Derived.Test.YtijipdaofojbiaaKCoin
import Derived.Test.YtijipdaofojbiaaKRef02
import Derived.Test.YtijipdaofojbiaaMem3
set_option linter.unusedSimpArgs false
set_option linter.unusedVariables false
namespace Go.Proofs.Ytijipdaofojbiaa
open Go Go.Ev

/-! ### What opens a cover -/

def fitsT (t u : List Int) (e : Int) : Int := if ¬ e = 0 then e else if t = u then 0 else 7
theorem opened_spec {g : GH} {c k p : Nat} {real : Bool} {seed : List Int} {B : List ShThing.T} {t u : List Int} {e : Int} (ht : ShTag.ok t) (hu : u.length = 32 ∧ ∀ x ∈ u, isByte x) (hck : ¬ c = k) (f : FuncId) (cap : Array Value)
    (hask : ∀ q : GH, Mv [] g q → ∀ R' : Value → Heap → Prop, (∀ q' : GH, Mv [k] q q' → MakC q' c k p real seed B → R' (.tuple #[.agg (tagA u), .int .i64 e]) q'.h) → HC Try.prog f (appA (appA #[] #[]) cap) R' q.h) {R : Value → Heap → Prop}
    (H : ∀ g' : GH, Mv [k] g g' → MakC g' c k p real seed B → R (.int .i64 (fitsT t u e)) g'.h) : HC Try.prog F.commit_opened #[.agg (tagA t), .func (.func f) #[] cap] R g.h := by
  refine commit_opened.calls ?_
  unfold commit_opened.body
  have htb := okTagB ht
  obtain ⟨y1, hy1, n1⟩ := fresh_exists g [c, k]
  obtain ⟨y2, hy2, n2⟩ := fresh_exists g [c, k, y1]
  simp only [List.mem_cons, List.mem_nil_iff, or_false, not_or] at n1 n2
  refine new_C g y1 fun p1 q1 m1 b1 => ?_
  refine callV_fn ?_
  refine hask q1 m1 _ fun q2 m2 x2 => ⟨(_, _), rfl, ?_⟩
  have b2 := b1.mv m2 (by simp [n1.2])
  dsimp only
  refine newStore_C q2 y2 (by rw [szTag]; simp [hu.1]) (by rw [zTag, szTag]; simp) (fun v hv => oneBy _ v hv) fun px q3 m3 bx => ?_
  have M : Mv [k, y1, y2] g q3 := ((Mv.mono m1 (L := [k, y1, y2]) (by simp)).step m2 (by simp)).step m3 (by simp)
  have hre : ∀ j ∈ [k, y1, y2], j ∈ [k] ∨ Fresh g j := by
    intro j hj
    simp only [List.mem_cons, List.mem_nil_iff, or_false] at hj
    rcases hj with rfl | rfl | rfl
    · exact .inl (by simp)
    · exact .inr hy1
    · exact .inr hy2
  have H2 := H (g.via q3 id) (M.re id hre) ((x2.mv m3 (by simp) (by simp)).re (φ := id) M (.inl rfl) (.inl rfl))
  unfold fitsT at H2
  by_cases he : e = 0
  · rw [if_neg (by simp [he])] at H2 ⊢
    refine loadAgg_whole bx (tagA_size hu.1) ?_
    refine loadAgg_whole (b2.mv m3 (by simp)) (tagA_size htb.1) ?_
    refine tag_neq hu.1 hu.2 htb.1 htb.2 ?_
    by_cases h : t = u
    · rw [if_neg (by simp [h])]; rw [if_pos h] at H2; exact H2
    · rw [if_pos (by simpa using fun e : u = t => h e.symm)]; rw [if_neg h] at H2; exact H2
  · rw [if_pos (by simpa using he)]
    rw [if_pos he] at H2
    exact H2

end Go.Proofs.Ytijipdaofojbiaa
