/-
  In plain Lean: what a table was asked.
-/
import Derived.Test.YtgongoaiflphaaaGreatKTags
set_option linter.unusedSimpArgs false
set_option linter.unusedVariables false
namespace Go.Proofs.YtgongoaiflphaaaGreat
open Go Go.Ev

/-! ### Strings, numbers -/

theorem strOf_data (xs : List Int) : ∀ r : ByteArray, (xs.foldl (fun r n => r.push (UInt8.ofNat n.toNat)) r).data.toList = r.data.toList ++ xs.map fun n => UInt8.ofNat n.toNat := by
  induction xs with
  | nil => intro r; simp
  | cons x xs ih => intro r; rw [List.foldl_cons, ih]; simp [ByteArray.push]
theorem strOf_inj {xs ys : List Int} (hx : ∀ x ∈ xs, isByte x) (hy : ∀ y ∈ ys, isByte y) (h : strOf xs = strOf ys) : xs = ys := by
  have h1 := congrArg (fun b : ByteArray => b.data.toList) h
  simp only [strOf, strOf_data] at h1
  have h2 : (xs.map fun n => UInt8.ofNat n.toNat) = ys.map fun n => UInt8.ofNat n.toNat := by simpa using h1
  clear h h1
  induction xs generalizing ys with
  | nil => cases ys with
    | nil => rfl
    | cons y ys => simp at h2
  | cons x xs ih =>
    cases ys with
    | nil => simp at h2
    | cons y ys =>
      simp only [List.map_cons, List.cons.injEq] at h2
      have bx := hx x List.mem_cons_self
      have by_ := hy y List.mem_cons_self
      unfold isByte at bx by_
      have e : x = y := by
        have := congrArg UInt8.toNat h2.1
        simp only [UInt8.toNat_ofNat'] at this
        omega
      rw [e, ih (fun z hz => hx z (List.mem_cons_of_mem _ hz)) (fun z hz => hy z (List.mem_cons_of_mem _ hz)) h2.2]

/-! ### What a table was asked -/

/-- More was asked since. -/
def Since (A B : List ShThing.T) : Prop := ∃ C, B = A ++ C
theorem Since.refl (A : List ShThing.T) : Since A A := ⟨[], by simp⟩
theorem Since.trans {A B C : List ShThing.T} (h : Since A B) (k : Since B C) : Since A C := by
  obtain ⟨X, rfl⟩ := h
  obtain ⟨Y, rfl⟩ := k
  exact ⟨X ++ Y, by simp⟩
theorem idxIn_append {α : Type} [DecidableEq α] {y : α} : ∀ {xs zs : List α} {k : Nat}, idxIn y xs = some k → idxIn y (xs ++ zs) = some k
  | [], zs, k, h => by simp [idxIn] at h
  | x :: xs, zs, k, h => by
    by_cases e : y = x
    · simpa [idxIn, e] using h
    · simp only [idxIn, if_neg e, Option.map_eq_some_iff] at h
      obtain ⟨j, hj, rfl⟩ := h
      simp only [List.cons_append, idxIn, if_neg e, idxIn_append hj, Option.map_some]
theorem Since.idx {A B : List ShThing.T} (h : Since A B) {x : ShThing.T} {k : Nat} (hk : idxIn x A = some k) : idxIn x B = some k := by
  obtain ⟨C, rfl⟩ := h
  exact idxIn_append hk
theorem idxIn_snoc {α : Type} [DecidableEq α] {y : α} : ∀ {xs : List α}, idxIn y xs = none → idxIn y (xs ++ [y]) = some xs.length
  | [], _ => by simp [idxIn]
  | x :: xs, h => by
    by_cases e : y = x
    · simp [idxIn, e] at h
    · simp only [idxIn, if_neg e, Option.map_eq_none_iff] at h
      simp only [List.cons_append, idxIn, if_neg e, idxIn_snoc h, Option.map_some, List.length_cons]
theorem askT_since (A : List ShThing.T) (x : ShThing.T) : Since A (askT A x).2 := by
  unfold askT
  split
  · exact Since.refl A
  · exact ⟨[x], rfl⟩
theorem askT_idx (A : List ShThing.T) (x : ShThing.T) : idxIn x (askT A x).2 = some (askT A x).1 := by
  unfold askT
  split
  · assumption
  · rename_i h; exact idxIn_snoc h
theorem askT_there {A : List ShThing.T} {x : ShThing.T} {k : Nat} (h : idxIn x A = some k) : askT A x = (k, A) := by
  unfold askT
  rw [h]
end Go.Proofs.YtgongoaiflphaaaGreat
