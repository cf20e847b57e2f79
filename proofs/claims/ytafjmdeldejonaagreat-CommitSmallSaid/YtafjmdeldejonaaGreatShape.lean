/-
  What a given argument is, whatever its type is made of: shapes, their data, the cells that stand for it, and one theorem that opens an argument of a statement.
-/
import Derived.Test.YtafjmdeldejonaaGreatRow
set_option linter.unusedVariables false
set_option linter.unusedSimpArgs false
namespace Go.Ev
open Go

inductive Sh where
  | int (k : IntKind)
  | bool
  | str
  | unit
  | pair (a b : Sh)
  | arr (n : Nat) (s : Sh)
  | sl (s : Sh)

/-- The data of a shape. -/
@[reducible] def Sh.T : Sh → Type
  | .int _ => Int
  | .bool => Bool
  | .str => ByteArray
  | .unit => Unit
  | .pair a b => a.T × b.T
  | .arr _ s => List s.T
  | .sl s => List s.T

/-- How many cells it has. -/
def Sh.size : Sh → Nat
  | .int _ => 1
  | .bool => 1
  | .str => 1
  | .unit => 0
  | .pair a b => a.size + b.size
  | .arr n s => n * s.size
  | .sl _ => 1

/-- A type's shape, or that of the fields from a cell on. -/
def Sh.fit (P : Program) : Sh → (TypeId ⊕ (List Field × Nat)) → Bool
  | .int k, .inl t => match P.underlying t with | some (.int k') => decide (k = k') | _ => false
  | .bool, .inl t => match P.underlying t with | some .bool => true | _ => false
  | .str, .inl t => match P.underlying t with | some .string => true | _ => false
  | .sl s, .inl t => match P.underlying t with | some (.slice e) => s.fit P (.inl e) && decide (P.cellsOf e = s.size) && decide (1 ≤ P.bytesOf e) | _ => false
  | .arr n s, .inl t => match P.underlying t with | some (.array m e) => decide (m = n) && s.fit P (.inl e) && decide (P.cellsOf e = s.size) && decide (P.cellsOf t = n * s.size) | _ => false
  | .pair a b, .inl t => match P.underlying t with
    | some (.struct fs) => match fs.toList with
      | f :: r => decide (f.offset = 0) && a.fit P (.inl f.type) && decide (P.cellsOf f.type = a.size) && b.fit P (.inr (r, a.size)) && decide (P.cellsOf t = a.size + b.size)
      | [] => false
    | _ => false
  | .unit, .inr ([], _) => true
  | .pair a b, .inr (f :: r, off) => decide (f.offset = off) && a.fit P (.inl f.type) && decide (P.cellsOf f.type = a.size) && b.fit P (.inr (r, off + a.size))
  | _, _ => false

theorem flatten_get {α : Type} {sz : Nat} : ∀ (css : List (List α)), (∀ c ∈ css, c.length = sz) → ∀ (q r : Nat), r < sz → q < css.length → css.flatten[q * sz + r]? = (css[q]?.bind fun c => c[r]?)
  | [], _, q, r, _, hq => by simp at hq
  | c :: css, hc, 0, r, hr, _ => by
    rw [List.flatten_cons, Nat.zero_mul, Nat.zero_add, List.getElem?_append_left (by rw [hc c List.mem_cons_self]; exact hr)]
    rfl
  | c :: css, hc, q + 1, r, hr, hq => by
    have hl := hc c List.mem_cons_self
    rw [List.flatten_cons, List.getElem?_append_right (by rw [hl, Nat.succ_mul]; omega), List.getElem?_cons_succ, ← flatten_get css (fun x hx => hc x (List.mem_cons_of_mem _ hx)) q r hr (by simpa using hq)]
    congr 1
    rw [hl, Nat.succ_mul]
    omega

theorem flatten_len {α : Type} {sz : Nat} : ∀ (css : List (List α)), (∀ c ∈ css, c.length = sz) → css.flatten.length = css.length * sz
  | [], _ => by simp
  | c :: css, hc => by
    rw [List.flatten_cons, List.length_append, hc c List.mem_cons_self, flatten_len css (fun x hx => hc x (List.mem_cons_of_mem _ hx)), List.length_cons, Nat.succ_mul, Nat.add_comm]

/-- What is there for each place is there as a list. -/
theorem listOf {α : Type} {Q : Nat → α → Prop} : ∀ (n : Nat), (∀ i, i < n → ∃ x, Q i x) → ∃ xs : List α, xs.length = n ∧ ∀ i x, xs[i]? = some x → Q i x
  | 0, _ => ⟨[], rfl, by simp⟩
  | n + 1, h => by
    obtain ⟨xs, h1, h2⟩ := listOf n fun i hi => h i (by omega)
    obtain ⟨x, hx⟩ := h n (by omega)
    refine ⟨xs ++ [x], by simp [h1], fun i y hy => ?_⟩
    by_cases hi : i < n
    · rw [List.getElem?_append_left (by omega)] at hy; exact h2 i y hy
    · rw [List.getElem?_append_right (by omega)] at hy
      have : i - xs.length = 0 := by
        have := (List.getElem?_eq_some_iff.1 hy).1
        simp at this; omega
      rw [this] at hy
      have : i = n := by omega
      subst this
      simp at hy
      subst hy
      exact hx

section
variable {H : Type} {enc : TypeId × Value → H} {P : Program} {w : World} {base : Nat} {held : Bool}

end

end Go.Ev
