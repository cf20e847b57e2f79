/-
  A maker that is none.
-/
import Derived.Test.YtafjmdeldejonaaGreatKTags
set_option linter.unusedSimpArgs false
set_option linter.unusedVariables false
namespace Go.Proofs.YtafjmdeldejonaaGreat
open Go Go.Ev

/-- No maker: nil, or one that was not made. -/
def NoC (g : GH) (c : Nat) (v : Option Addr) : Prop := v = none ∨ ∃ (p : Nat) (cells : Array Value) (e : TypeId), v = some ⟨p, 0, none⟩ ∧ BlkC g c p cells e ∧ cells[0]? = some (.map none)
theorem NoC.mv {K : List Nat} {g g' : GH} {c : Nat} {v : Option Addr} (x : NoC g c v) (m : Mv K g g') (h : c ∉ K) : NoC g' c v := by
  rcases x with h0 | ⟨p, cells, e, h1, b, h2⟩
  · exact .inl h0
  · exact .inr ⟨p, cells, e, h1, b.mv m h, h2⟩
theorem noThere_spec {g : GH} {c : Nat} {v : Option Addr} (x : NoC g c v) {R : Value → Heap → Prop} (H : R (.bool false) g.h) : HC Tryz.prog F.tags_Maker_there #[.pointer v] R g.h := by
  rcases x with rfl | ⟨p, cells, e, rfl, b, h2⟩
  · exact thereNil_spec H
  · refine tags_Maker_there.calls ?_
    unfold tags_Maker_there.body
    rw [if_pos (by rfl), derefK_some, fldK_some, fldK_some, loadK_C b]
    exact ⟨none, h2, H⟩
theorem noCopy_spec {g : GH} {c : Nat} {v : Option Addr} (x : NoC g c v) {R : Value → Heap → Prop} (H : R (.pointer none) g.h) : HC Tryz.prog F.tags_Maker_Copy #[.pointer v] R g.h := by
  refine tags_Maker_Copy.calls ?_
  unfold tags_Maker_Copy.body
  refine noThere_spec x ⟨_, rfl, ?_⟩
  try dsimp only
  rw [if_pos (by rfl)]
  exact H

end Go.Proofs.YtafjmdeldejonaaGreat
