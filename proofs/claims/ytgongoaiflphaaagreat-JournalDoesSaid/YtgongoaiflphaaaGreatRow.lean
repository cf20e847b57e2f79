/-
  From the given statement's words for a row of numbers to this library's.
-/
import Derived.Test.YtgongoaiflphaaaGreatMem
import Derived.WalkKit
import Derived.ProofKit
import Derived.OpenShut
import Derived.ChangeOld
import Derived.SizedLaws
set_option linter.unusedVariables false
namespace Go.Ev
open Go

/-- A row of numbers, as the given statements speak of it. -/
def IsRow (k : IntKind) (w : World) (a : Option Addr) (len cap : Nat) (zs : List Int) : Prop :=
  (a = none ∧ len = 0 ∧ cap = 0 ∧ zs = []) ∨ ∃ x, a = some x ∧ len ≤ cap ∧ cap ≤ maxLen ∧ zs.length = cap ∧ (∀ i, i < zs.length → w.cell? (x.add i) = some (.int k (zs.getD i 0))) ∧ ∀ n ∈ zs, (Lit.int k n).wf = true

theorem cell_some {w : World} {a : Addr} {v : Value} (h : w.cell? a = some v) : a.spot = none ∧ ∃ c e fz, w.heap[a.block]? = some (.cells c e fz) ∧ c[a.off]? = some v := by
  unfold World.cell? at h
  split at h
  · rename_i c e fz hb
    split at h
    · cases h
    · rename_i hs
      refine ⟨by cases hq : a.spot <;> simp_all, c, e, fz, hb, h⟩
  · cases h

theorem IsRow.rd {k : IntKind} {w : World} {a : Option Addr} {len cap : Nat} {zs : List Int} (r : IsRow k w a len cap zs) :
    Rd 1 w.heap ⟨a, len, cap⟩ ((zs.take len).map (.int k)) ∧ (∀ n ∈ zs.take len, k.min ≤ n ∧ n ≤ k.max) ∧ (zs.take len).length = len ∧ len ≤ cap := by
  rcases r with ⟨rfl, rfl, rfl, rfl⟩ | ⟨x, rfl, hl, hm, hz, hc, hw⟩
  · exact ⟨Rd.nil _ _ _ _, by simp, rfl, Nat.le_refl _⟩
  · have hlen : (zs.take len).length = len := by rw [List.length_take]; omega
    refine ⟨⟨by simp; omega, ?_⟩, ?_, hlen, hl⟩
    · by_cases h0 : len = 0
      · subst h0; exact .inl (by simp)
      · right
        obtain ⟨hs, c, e, fz, hb, h1⟩ := cell_some (hc 0 (by omega))
        have hx : x.add 0 = x := by simp [Addr.add]
        rw [hx] at hs hb h1
        obtain ⟨xb, xo, xs⟩ := x
        dsimp only at hs hb h1
        subst hs
        refine ⟨xb, xo, c, e, fz, rfl, hb, fun i hi => ?_⟩
        rw [List.length_map, hlen] at hi
        obtain ⟨_, c', e', fz', hb', h2⟩ := cell_some (hc i (by omega))
        rw [addr_add] at hb' h2
        dsimp only at hb' h2
        rw [hb] at hb'
        obtain ⟨rfl, _, _⟩ := hb'
        rw [h2, List.getElem?_map, List.getElem?_take_of_lt hi, List.getD_eq_getElem?_getD, List.getElem?_eq_getElem (by omega)]
        simp
    · intro n hn
      have h1 := hw n (List.mem_of_mem_take hn)
      simp only [Lit.wf, Bool.and_eq_true, decide_eq_true_eq] at h1
      exact h1

theorem wf_u32 {n : Int} (h : (Lit.int .u32 n).wf = true) : 0 ≤ n ∧ n ≤ 4294967295 := by
  simp only [Lit.wf, Bool.and_eq_true, decide_eq_true_eq] at h; exact h
theorem wf_i64 {n : Int} (h : (Lit.int .i64 n).wf = true) : -9223372036854775808 ≤ n ∧ n ≤ 9223372036854775807 := by
  simp only [Lit.wf, Bool.and_eq_true, decide_eq_true_eq] at h; exact h
theorem wf_u8 {n : Int} (h : (Lit.int .u8 n).wf = true) : 0 ≤ n ∧ n ≤ 255 := by
  simp only [Lit.wf, Bool.and_eq_true, decide_eq_true_eq] at h; exact h

/-- A slice of numbers that is given: what it reads, in what bounds, how long it may be (an element being B bytes). -/
structure RowIn (k : IntKind) (B : Nat) (h : Heap) (a : Option Addr) (len cap : Nat) (zs : List Int) : Prop where
  rd : Rd 1 h ⟨a, len, cap⟩ (zs.map (.int k))
  wf : ∀ n ∈ zs, k.min ≤ n ∧ n ≤ k.max
  length : zs.length = len
  le : len ≤ cap
  small : len * B ≤ 140737488351232

open Go.ChangeShapes Go.WideShapes Go.ChangeAt Go.RowKit in
theorem open_row {H : Type} {enc : TypeId × Value → H} {P : Program} {W : World} {base : Nat} {held : Bool} {t e : TypeId} {k : IntKind} {a : Option Addr} {len cap : Nat} {d : DataW H} {ps : List MemPlace} {ts : List TypeId} {ds : List (DataW H)} {j : Nat}
    (hsz : (DataW.weightsEach P ts ds).all (· ≤ reachBytes) = true) (ht : ts[j]? = some t) (hd : ds[j]? = some d) (hu : P.underlying t = some (.slice e)) (he : P.underlying e = some (.int k)) (hc : P.cellsOf e = 1) {B : Nat} (hB : P.bytesOf e = B)
    (h : DataW.Trod enc P W base (fun _ => true) held t (.slice a len cap) d ps) : ∃ zs, RowIn k B W.heap a len cap zs := by
  obtain ⟨fuel, hf⟩ := h
  rcases open_ints hu he hc hf with ⟨hcs, _⟩ | ⟨x, l, c, zs, hcs, _, hl, hm, hz, hx, hcell, hwz⟩
  · simp [Value.cells] at hcs
    obtain ⟨rfl, rfl, rfl⟩ := hcs
    exact ⟨[], Rd.nil _ _ _ _, by simp, rfl, Nat.le_refl _, by simp⟩
  · simp [Value.cells] at hcs
    obtain ⟨rfl, rfl, rfl⟩ := hcs
    obtain ⟨hx, _⟩ := Prod.mk.inj hx
    subst hx
    have z := sized_slice hsz ht hd hu
    rw [hB] at z
    have hr : IsRow k W (some x) len cap zs := .inr ⟨_, rfl, hl, hm, by simpa using hz, hcell, hwz⟩
    obtain ⟨h1, h2, h3, h4⟩ := hr.rd
    refine ⟨zs.take len, h1, h2, h3, h4, ?_⟩
    have hl2 : len ≤ zs.length := by simp at hz; omega
    have : (lits (H := H) k (zs.take len)).length + (lits (H := H) k (zs.drop len)).length = zs.length := by simp [lits]; omega
    rw [this] at z
    have h5 : len * B ≤ zs.length * B := Nat.mul_le_mul_right _ hl2
    have h6 : reachBytes = 140737488351232 := by decide
    omega

end Go.Ev
