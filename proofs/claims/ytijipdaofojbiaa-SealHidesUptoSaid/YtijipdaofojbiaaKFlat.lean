/-
  The rows of flat data that the law's kit lends, and what it finds of them again. Printed by kitflat.py.
-/
import Derived.Test.YtijipdaofojbiaaKApi
set_option linter.unusedSimpArgs false
set_option linter.unusedVariables false
namespace Go.Proofs.Ytijipdaofojbiaa
open Go Go.Ev


/-! ### Tags -/

theorem szF_Tag : sizeOfT Try.prog T.api_Tag = (ShTag).size := by kernel_rfl
theorem neqF_Tag {x y : (ShTag).T} {ox oy : Operand} (hx : (ShTag).ok x) (hy : (ShTag).ok y) {K : Bool → Prop} (H : ∀ r : Bool, (r = true ↔ ¬ x = y) → K r) : eqK Try.prog (binSem .neq T.api_Tag ox oy (.agg ⟨(ShTag).enc x⟩) (.agg ⟨(ShTag).enc y⟩)) K :=
  neqK_flat (P := Try.prog) ShTag (t := T.api_Tag) (m := 10) (by decide) rfl (by kernel_rfl) (by kernel_rfl) (by kernel_rfl) (by kernel_rfl) (by kernel_rfl) hx hy H
theorem appendTags_C {g : GH} {c d : Nat} {v w : Sl} {xs ys : List (ShTag).T} (hs : OwnF T.api_Tag ShTag g c v xs) (hx : SlC g d ShTag w ys) (hlen : v.n + w.n ≤ 1000000000) {K : Sl → Heap → Prop}
    (hK : ∀ (v' : Sl) (g' : GH), Mv [c] g g' → OwnF T.api_Tag ShTag g' c v' (xs ++ ys) → K v' g'.h) :
    opK Try.prog .slice (Builtin.append_ #[T.sl_api_Tag, T.sl_api_Tag] T.sl_api_Tag #[.slice v.a v.n v.c, .slice w.a w.n w.c]) K g.h :=
  appendF_C (e := T.api_Tag) (e2 := T.api_Tag) (by_ := 32) (z := .agg (zerosOf Try.prog T.api_Tag)) rfl (by kernel_rfl) (by kernel_rfl) (by kernel_rfl) (by kernel_rfl) (by omega) hs hx hlen hK
theorem mkTag_C (g : GH) (c : Nat) {x : (ShTag).T} (ok : (ShTag).ok x) {K : Sl → Heap → Prop} (H : ∀ (s : Sl) (g' : GH), Mv [] g g' → OwnF T.api_Tag ShTag g' c s [x] → s.c = 1 → K s g'.h) : opK Try.prog .slice (Instr.buildSlice T.sl_api_Tag 1 #[(0, .agg ⟨(ShTag).enc x⟩)]) K g.h :=
  buildRows_C (e := T.api_Tag) (sz := (ShTag).size) (z := .agg (zerosOf Try.prog T.api_Tag)) (by kernel_rfl) (by kernel_rfl) (by decide) [.agg ⟨(ShTag).enc x⟩] rfl (by
    intro v hv
    simp only [List.mem_singleton] at hv
    subst hv
    have := Sh.enc_length (s := ShTag) rfl ok
    simpa [Value.cells] using this) rfl (by simp) (by show 1 * (ShTag).size ≤ 16777216; decide) g c fun s g' m o hn hc =>
    H s g' m ⟨by simpa [Value.cells] using o, fun y hy => by simp only [List.mem_singleton] at hy; subst hy; exact ok, by simpa using hn⟩ (by simpa using hc)

/-! ### Entries -/

theorem szF_Entry : sizeOfT Try.prog T.api_Entry = (ShEntry).size := by kernel_rfl
theorem mkEntry_C (g : GH) (c : Nat) {x : (ShEntry).T} (ok : (ShEntry).ok x) {K : Sl → Heap → Prop} (H : ∀ (s : Sl) (g' : GH), Mv [] g g' → OwnF T.api_Entry ShEntry g' c s [x] → s.c = 1 → K s g'.h) : opK Try.prog .slice (Instr.buildSlice T.sl_api_Entry 1 #[(0, .agg ⟨(ShEntry).enc x⟩)]) K g.h :=
  buildRows_C (e := T.api_Entry) (sz := (ShEntry).size) (z := .agg (zerosOf Try.prog T.api_Entry)) (by kernel_rfl) (by kernel_rfl) (by decide) [.agg ⟨(ShEntry).enc x⟩] rfl (by
    intro v hv
    simp only [List.mem_singleton] at hv
    subst hv
    have := Sh.enc_length (s := ShEntry) rfl ok
    simpa [Value.cells] using this) rfl (by simp) (by show 1 * (ShEntry).size ≤ 16777216; decide) g c fun s g' m o hn hc =>
    H s g' m ⟨by simpa [Value.cells] using o, fun y hy => by simp only [List.mem_singleton] at hy; subst hy; exact ok, by simpa using hn⟩ (by simpa using hc)

/-! ### Msgs -/

end Go.Proofs.Ytijipdaofojbiaa
