/-
The statement TagsEnds of layer 04 holds for whatever it is given.
-/
import Derived.Test.YtgdkaljbjhbeiaaRows
import Derived.Test.YtgdkaljbjhbeiaaLay
import Derived.Test.YtgdkaljbjhbeiaaKTagsEnds
import Derived.WalkKit
import Derived.ProofKit
import Derived.OpenShut
import Derived.ShutString
import Derived.ChangeOld
import Derived.Below
import Derived.HandedShaped
namespace Go.Proofs.Ytgdkaljbjhbeiaa.tagsEnds
open Go.ChangeShapes Go.WideShapes Go.ChangeAt Go.RowKit Go.Ev
set_option linter.unusedVariables false
theorem own : ownKnob Try.prog.godebug = none := by kernel_rfl
set_option maxRecDepth 100000 in
theorem lifted (os : Os) (started : os.Started) (H : Type) (enc : TypeId × Value → H) :
    ReturnsInHanded {} Try.checked os 5 .any (Rows.tagsEndsSpec.pre6 enc Try.prog Try.f5 Rows.tagsEndsRow.domain false) (Rows.tagsEndsSpec.post enc Try.prog Try.f5 false true false false) := by
  refine returnsInHanded_of_change_shaped (C := Try.checked) own started (by kernel_rfl) Try.func5
    (ChangeSpec.witness6 (enc := enc) (C := Try.checked) false ⟨#[], #[], []⟩ 8 (by kernel_rfl) (by kernel_rfl) (by kernel_rfl) (by kernel_rfl)) ?_
  intro W base args ds gs before hval0 hW hcnd hsz0 hsh _
  have hsz : (DataW.weightsEach Try.prog (Try.f5.params.toList ++ Rows.tagsEndsSpec.plain.varTypes Try.prog) (ds ++ gs)).all (· ≤ reachBytes) = true := hsz0
  have hval : ∀ (j : Nat) t v, Try.f5.params[j]? = some t → args[j]? = some v → Value.okWide Try.prog W .any base t v := hval0
  have hW' := hW
  obtain ⟨p, q, hA0, hV, rfl, hfz, hnd⟩ := hW
  have hA : DataW.TrodAll enc Try.prog W 0 (fun _ => true) true Try.f5.params.toList args.toList ds p := hA0
  rw [Try.params5] at hA hval hsz
  obtain ⟨rfl, rfl, rfl⟩ := trodAll_none hA
  obtain ⟨rfl, rfl⟩ := trodVars_none hV
  have mx : MaxC ⟨W.heap, fun _ => 0⟩ 0 := MaxC.of (Try.laysM186.s1_3 W hsh)
  clear hA0 hval0 hsz0 hsz
  refine ((TagsEnds_walk mx).2 W rfl).mono fun e W' he => ?_
  obtain ⟨v, rfl, hs, rfl, hx⟩ := he
  have bel : Below W.heap.size W W' := ⟨hs.os, hs.tape, hs.output, hx.1, fun k hk => hx.2 k hk (fun x => x)⟩
  exact ⟨_, rfl, _, _, _, [], _, [], hW', trodAll_mk1 (shut_bool Try.underlying4 _), trodAll_mk0, rfl, bel.frame _, fun h => by cases h⟩
theorem over : Rows.tagsEndsRow.holds Try.pinned (OpenSpec.ofChange Rows.tagsEndsSpec) :=
  OpenClaim.holds_of_wide 5 Try.f5 rfl rfl rfl rfl rfl rfl rfl ⟨rfl, rfl, rfl, rfl, rfl⟩ rfl rfl rfl rfl rfl (by kernel_rfl) Try.func5 (by kernel_rfl)
    (of_decide_eq_true (by kernel_rfl)) (by unfold Func.isWrapper; first | (rw [if_pos (by decide +kernel)]; kernel_rfl) | (rw [if_neg (by decide +kernel)]; exact ⟨rfl, rfl⟩))
    (fun os started H enc _ => lifted os started H enc)
theorem proved : Rows.TagsEndsSaid := over
end Go.Proofs.Ytgdkaljbjhbeiaa.tagsEnds
namespace Go.Proofs.Ytgdkaljbjhbeiaa
theorem tagsEnds_holds : Rows.TagsEndsSaid := tagsEnds.proved
end Go.Proofs.Ytgdkaljbjhbeiaa
