/-
  Colours that are taken for one: for a contract that asks for one colour.
-/
import Derived.Test.YtgongoaiflphaaaGreatKTags
set_option linter.unusedSimpArgs false
set_option linter.unusedVariables false
namespace Go.Proofs.YtgongoaiflphaaaGreat
open Go Go.Ev

def GH.fold (g : GH) (ψ : Nat → Nat) : GH := ⟨g.h, fun b => ψ (g.γ b)⟩
theorem foldRd {sz : Nat} {g : GH} {k : Nat} {s : Sl} {vs : List Value} (r : RdC sz g k s vs) (ψ : Nat → Nat) {z : Nat} (hz : ψ k = z) : RdC sz (GH.fold g ψ) z s vs := ⟨r.rd, r.col.imp id fun ⟨b, h1, h2, h3⟩ => ⟨b, h1, h2, by show ψ (g.γ b) = z; rw [h3, hz]⟩⟩
theorem foldBlk {g : GH} {k b : Nat} {cells : Array Value} {e : TypeId} (r : BlkC g k b cells e) (ψ : Nat → Nat) {z : Nat} (hz : ψ k = z) : BlkC (GH.fold g ψ) z b cells e := ⟨r.blk, by show ψ (g.γ b) = z; rw [r.col, hz]⟩
theorem foldMak {g : GH} {c k p : Nat} {real : Bool} {seed : List Int} {asked : List ShThing.T} (x : MakC g c k p real seed asked) (ψ : Nat → Nat) (hc : ψ c = c) (hk : ψ k = k) : MakC (GH.fold g ψ) c k p real seed asked := by
  obtain ⟨r, s, b, n, d, h'⟩ := x
  exact ⟨r, s, foldBlk b ψ hc, ⟨⟨n.1.at_, by show ψ (g.γ r) = k; rw [n.1.col, hk]⟩, n.2⟩, foldRd d ψ hc, h'⟩
theorem unfoldMv {K : List Nat} {g q : GH} {ψ : Nat → Nat} (m : Mv K (GH.fold g ψ) q) (h : ∀ x, ψ x ∈ K → x ∈ K) : Mv K g (g.via q id) :=
  ⟨m.size, fun b hb => by simp [GH.via, hb], fun b hb hK => m.same b hb fun hx => hK (h _ hx)⟩
theorem unfoldCol {K : List Nat} {g q : GH} {ψ : Nat → Nat} (m : Mv K (GH.fold g ψ) q) {c b : Nat} (h : ∀ x, ψ x = c → x = c) (hb : q.γ b = c) : (g.via q id).γ b = c := by
  simp only [GH.via]
  split
  · rename_i hlt
    rw [m.col b hlt] at hb
    exact h _ hb
  · exact hb
theorem unfoldMak {K : List Nat} {g q : GH} {ψ : Nat → Nat} (m : Mv K (GH.fold g ψ) q) {c k p : Nat} {real : Bool} {seed : List Int} {asked : List ShThing.T} (x : MakC q c k p real seed asked) (hc : ∀ x, ψ x = c → x = c) (hk : ∀ x, ψ x = k → x = k) : MakC (g.via q id) c k p real seed asked := by
  obtain ⟨r, s, b, n, d, h'⟩ := x
  exact ⟨r, s, ⟨b.blk, unfoldCol m hc b.col⟩, ⟨⟨n.1.at_, unfoldCol m hk n.1.col⟩, n.2⟩, ⟨d.rd, d.col.imp id fun ⟨b, h1, h2, h3⟩ => ⟨b, h1, h2, unfoldCol m hc h3⟩⟩, h'⟩


end Go.Proofs.YtgongoaiflphaaaGreat
