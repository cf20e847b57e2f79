/-
  The statements of layer 02, their parts: the example, sizes, tags held against each other.
-/
import Derived.Test.YtcbpajedibamoaaKRef02
import Derived.Test.YtcbpajedibamoaaFlat
import Derived.Test.YtcbpajedibamoaaConv
set_option linter.unusedSimpArgs false
set_option linter.unusedVariables false
namespace Go.Proofs.Ytcbpajedibamoaa
open Go Go.Ev

abbrev ShTag : Sh := .arr 32 (.int .u8)
theorem encTag (t : List Int) : Sh.enc ShTag t = t.map byV := by
  show t.flatMap (fun n => [Value.int .u8 n]) = t.map byV
  induction t with
  | nil => rfl
  | cons x t ih => rw [List.flatMap_cons, ih]; rfl
theorem okTag {t : List Int} (hl : t.length = 32) (hb : ∀ x ∈ t, isByte x) : Sh.ok ShTag t := ⟨hl, fun x hx => by have := hb x hx; unfold isByte at this; exact ⟨this.1, this.2⟩⟩

theorem tag_eq {x y : List Int} (hx : x.length = 32) (hxb : ∀ v ∈ x, isByte v) (hy : y.length = 32) (hyb : ∀ v ∈ y, isByte v) {ox oy : Operand} {K : Bool → Prop} (H : K (decide (x = y))) : eqK Try.prog (binSem .eql T.api_Tag ox oy (.agg (tagA x)) (.agg (tagA y))) K := by
  have h := eqK_flat (P := Try.prog) ShTag (t := T.api_Tag) (m := 10) (by decide) (x := x) (y := y) (ox := ox) (oy := oy) rfl (by kernel_rfl) (by kernel_rfl) (by kernel_rfl) (by kernel_rfl) (by kernel_rfl) (okTag hx hxb) (okTag hy hyb) (K := K)
    (fun r hr => by
      have : r = decide (x = y) := by cases r <;> simp_all
      rw [this]; exact H)
  rw [encTag, encTag] at h
  exact h
theorem tag_neq {x y : List Int} (hx : x.length = 32) (hxb : ∀ v ∈ x, isByte v) (hy : y.length = 32) (hyb : ∀ v ∈ y, isByte v) {ox oy : Operand} {K : Bool → Prop} (H : K (decide (¬ x = y))) : eqK Try.prog (binSem .neq T.api_Tag ox oy (.agg (tagA x)) (.agg (tagA y))) K := by
  have h := neqK_flat (P := Try.prog) ShTag (t := T.api_Tag) (m := 10) (by decide) (x := x) (y := y) (ox := ox) (oy := oy) rfl (by kernel_rfl) (by kernel_rfl) (by kernel_rfl) (by kernel_rfl) (by kernel_rfl) (okTag hx hxb) (okTag hy hyb) (K := K)
    (fun r hr => by
      have : r = decide (¬ x = y) := by cases r <;> simp_all
      rw [this]; exact H)
  rw [encTag, encTag] at h
  exact h

/-- Digests are alike that are of alike bytes. -/
theorem sha_eq {x y : List Int} {ox oy : Operand} {K : Bool → Prop} (he : x = y) (H : K true) : eqK Try.prog (binSem .eql T.api_Tag ox oy (.agg (tagA (shaB x))) (.agg (tagA (shaB y)))) K :=
  tag_eq (shaB_length x) (shaB_byte x) (shaB_length y) (shaB_byte y) (by subst he; simpa using H)
theorem sha_neq {x y : List Int} {ox oy : Operand} {K : Bool → Prop} (he : x = y) (H : K false) : eqK Try.prog (binSem .neq T.api_Tag ox oy (.agg (tagA (shaB x))) (.agg (tagA (shaB y)))) K :=
  tag_neq (shaB_length x) (shaB_byte x) (shaB_length y) (shaB_byte y) (by subst he; simpa using H)

theorem byt (xs : List Int) (h : xs.all (fun x => decide (0 ≤ x) && decide (x ≤ 255)) = true) : ∀ x ∈ xs, isByte x := by
  intro x hx
  have := List.all_eq_true.1 h x hx
  simp at this
  unfold isByte; omega

end Go.Proofs.Ytcbpajedibamoaa
