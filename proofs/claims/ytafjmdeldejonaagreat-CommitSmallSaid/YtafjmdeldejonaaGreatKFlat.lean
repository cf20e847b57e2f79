/-
  The rows of flat data that the law's kit lends, and what it finds of them again. Printed by kitflat.py.
-/
import Derived.Test.YtafjmdeldejonaaGreatKApi
set_option linter.unusedSimpArgs false
set_option linter.unusedVariables false
namespace Go.Proofs.YtafjmdeldejonaaGreat
open Go Go.Ev


/-! ### Tags -/

theorem mkTag_C (g : GH) (c : Nat) {x : (ShTag).T} (ok : (ShTag).ok x) {K : Sl → Heap → Prop} (H : ∀ (s : Sl) (g' : GH), Mv [] g g' → OwnF T.api_Tag ShTag g' c s [x] → s.c = 1 → K s g'.h) : opK Tryz.prog .slice (Instr.buildSlice T.sl_api_Tag 1 #[(0, .agg ⟨(ShTag).enc x⟩)]) K g.h :=
  buildRows_C (e := T.api_Tag) (sz := (ShTag).size) (z := .agg (zerosOf Tryz.prog T.api_Tag)) (by kernel_rfl) (by kernel_rfl) (by decide) [.agg ⟨(ShTag).enc x⟩] rfl (by
    intro v hv
    simp only [List.mem_singleton] at hv
    subst hv
    have := Sh.enc_length (s := ShTag) rfl ok
    simpa [Value.cells] using this) rfl (by simp) (by show 1 * (ShTag).size ≤ 16777216; decide) g c fun s g' m o hn hc =>
    H s g' m ⟨by simpa [Value.cells] using o, fun y hy => by simp only [List.mem_singleton] at hy; subst hy; exact ok, by simpa using hn⟩ (by simpa using hc)

/-! ### Entries -/

/-! ### Msgs -/

end Go.Proofs.YtafjmdeldejonaaGreat
