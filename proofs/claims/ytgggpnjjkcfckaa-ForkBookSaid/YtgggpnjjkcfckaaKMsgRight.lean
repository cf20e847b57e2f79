/-
  The package msg: which messages are right.
-/
import Derived.Test.YtgggpnjjkcfckaaKMsg
set_option linter.unusedSimpArgs false
set_option linter.unusedVariables false
namespace Go.Proofs.Ytgggpnjjkcfckaa
open Go Go.Ev

theorem fillA_step {place : Nat → Option (Nat × Nat)} {cells : Array Value} {i off size : Nat} {v : Value} {rest : List (Nat × Value)} (h1 : place i = some (off, size)) (h2 : v.cells.size = size) (h3 : off + size ≤ cells.size) : fillA place cells ((i, v) :: rest) = fillA place (overA cells off v.cells.toList) rest := by
  rw [fillA]
  simp only [h1]
  rw [if_neg (by simp [h2]; omega)]

abbrev placesMsg : Array (Nat × Nat) := #[(0, 1), (1, 32), (33, 1), (34, 32), (66, 1), (67, 32), (99, 135)]
theorem msgOverKind (x : MsgT) (n : Int) : overA ⟨ShMsg.enc x⟩ 0 [.int .i64 n] = ⟨ShMsg.enc (n, x.2)⟩ := over_at (pre := []) (mid := [.int .i64 x.1]) rfl rfl
theorem msgOverGame (x : MsgT) (t : List Int) (ht : ShTag.ok t) (hx : ShTag.ok x.game) : overA ⟨ShMsg.enc x⟩ 1 (ShTag.enc t) = ⟨ShMsg.enc (x.1, t, x.2.2)⟩ := over_at (pre := [.int .i64 x.1]) (mid := ShTag.enc x.game) rfl (by rw [lenTag ht, lenTag hx])
theorem msgOverSender (x : MsgT) (n : Int) (hg : ShTag.ok x.game) : overA ⟨ShMsg.enc x⟩ 33 [.int .i64 n] = ⟨ShMsg.enc (x.1, x.2.1, n, x.2.2.2)⟩ := by
  have e : ∀ k : Int, ShMsg.enc (x.1, x.2.1, k, x.2.2.2) = ([.int .i64 x.1] ++ ShTag.enc x.game) ++ ([.int .i64 k] ++ Sh.enc (.pair ShTag (.pair (.int .i64) (.pair ShTag (.pair ShEntry .unit)))) x.2.2.2) := fun k => by simp [Sh.enc]
  have h := e x.sender
  have hx' : x = (x.1, x.2.1, x.sender, x.2.2.2) := rfl
  rw [hx', h, e n]
  exact over_at (by simp [lenTag hg]) rfl

theorem okMsg0 : ShMsg.ok msg0 := ⟨okI0, ok0, okI0, ok0, okI0, ok0, okEntry0, trivial⟩
theorem msgRoom {x : MsgT} (ok : ShMsg.ok x) {n : Nat} (h : n ≤ 234) : n ≤ (⟨ShMsg.enc x⟩ : Array Value).size := by
  rw [List.size_toArray, lenMsg ok]; exact h
section
variable {g : GH} {c p : Nat} {x : MsgT}
end

theorem okMsg3 {m : MsgT} (ok : ShMsg.ok m) : ShMsg.ok (m.kind, m.game, m.sender, zero32, 0, zero32, entry0, ()) := ⟨ok.1, ok.2.1, ok.2.2.1, ok0, okI0, ok0, okEntry0, trivial⟩
theorem okHas {m : MsgT} (ok : ShMsg.ok m) : ShMsg.ok (hasMsg m) := by
  obtain ⟨h1, h2, h3, h4, h5, h6, h7, _⟩ := ok
  unfold hasMsg
  split
  · exact ⟨h1, h2, h3, h4, okI0, ok0, okEntry0, trivial⟩
  split
  · exact ⟨h1, h2, h3, ok0, h5, h6, okEntry0, trivial⟩
  split
  · exact ⟨h1, h2, okI0, ok0, okI0, ok0, h7, trivial⟩
  · exact ⟨h1, h2, h3, ok0, okI0, ok0, okEntry0, trivial⟩

end Go.Proofs.Ytgggpnjjkcfckaa
