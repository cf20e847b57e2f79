/-
  What the functions of the document's own package for the layer 01 answer.
-/
import Derived.Test.YtgongoaiflphaaaKBits
import Derived.Test.YtgongoaiflphaaaKRows
set_option linter.unusedSimpArgs false
set_option linter.unusedVariables false
namespace Go.Proofs.Ytgongoaiflphaaa
open Go Go.Ev

/-- The word whose places below n are what f says. -/
def lowB (f : Nat → Bool) : Nat → BitVec 32
  | 0 => 0
  | n + 1 => lowB f n + (if f n then 1#32 <<< n else 0#32)

theorem lowB_get (f : Nat → Bool) : ∀ (n : Nat), n ≤ 32 → ∀ j, (lowB f n).getLsbD j = (decide (j < n) && f j)
  | 0, _, j => by simp [lowB]
  | n + 1, hn, j => by
    have ih := lowB_get f n (by omega)
    rw [lowB]
    split
    · rename_i hf
      have hz : lowB f n &&& 1#32 <<< n = 0#32 := by
        apply BitVec.eq_of_getLsbD_eq
        intro i hi
        rw [BitVec.getLsbD_and, ih, BitVec.getLsbD_shiftLeft]
        by_cases h1 : i < n
        · simp [h1]
        · simp [h1]
      rw [BitVec.add_eq_or_of_and_eq_zero _ _ hz, BitVec.getLsbD_or, ih, BitVec.getLsbD_shiftLeft]
      by_cases h1 : j < n
      · simp [h1, show j < n + 1 from by omega]
      · by_cases h2 : j = n
        · subst h2; simp [hf, show j < 32 from by omega]
        · have h3 : ¬ j < n + 1 := by omega
          have h4 : (1#32).getLsbD (j - n) = false := by
            rw [BitVec.getLsbD_one]; simp; omega
          simp [h1, h3, h4]
    · rename_i hf
      rw [BitVec.add_zero, ih]
      by_cases h1 : j < n
      · simp [h1, show j < n + 1 from by omega]
      · by_cases h2 : j = n
        · subst h2; simp [hf]
        · have h3 : ¬ j < n + 1 := by omega
          simp [h1, h3]

theorem lowB_eq {f : Nat → Bool} {x : BitVec 32} (h : ∀ j, j < 32 → f j = x.getLsbD j) : lowB f 32 = x := by
  apply BitVec.eq_of_getLsbD_eq
  intro i hi
  rw [lowB_get f 32 (by omega), h i hi]
  simp [hi]

/-- The place that is turned to place i. -/
def turnedFrom (n : Int) (i : Nat) : Nat := ((i + n % 32) % 32).toNat

theorem turnB_get (x : BitVec 32) (n : Int) (i : Nat) (hi : i < 32) : (turnB x n).getLsbD i = x.getLsbD (turnedFrom n i) := by
  unfold turnB turnedFrom
  rw [BitVec.getLsbD_rotateRight]
  have h1 : (n % 32).toNat % 32 = (n % 32).toNat := by omega
  rw [h1]
  by_cases h2 : i < 32 - (n % 32).toNat
  · simp only [h2, decide_true, cond_true, if_true]
    congr 1; omega
  · simp only [h2, decide_false, cond_false, if_false, hi, Bool.true_and]
    have : i - (32 - (n % 32).toNat) = ((i + n % 32) % 32).toNat := by omega
    simp [this, hi]

theorem tmod32 {n : Int} (h0 : 0 ≤ n) : Int.tmod n 32 = n % 32 := Int.tmod_eq_emod_of_nonneg h0

/-- A place of a word turned by some. -/
def mixAt (x : BitVec 32) (ts : List Int) (i : Nat) : Bool := ts.foldl (fun b t => b ^^ x.getLsbD (turnedFrom t i)) false

theorem mixB_get (x : BitVec 32) (i : Nat) (hi : i < 32) : ∀ (ts : List Int), (mixB x ts).getLsbD i = mixAt x ts i := by
  unfold mixB mixAt
  suffices ∀ (ts : List Int) (a : BitVec 32), (ts.foldl (fun a n => a ^^^ turnB x n) a).getLsbD i = ts.foldl (fun b t => b ^^ x.getLsbD (turnedFrom t i)) (a.getLsbD i) by
    intro ts; simpa using this ts 0
  intro ts
  induction ts with
  | nil => intro a; rfl
  | cons t ts ih =>
    intro a
    rw [List.foldl_cons, List.foldl_cons, ih, BitVec.getLsbD_xor, turnB_get x t i hi]

theorem mixAt_succ (x : BitVec 32) (ts : List Int) (i k : Nat) (h : k < ts.length) : mixAt x (ts.take (k + 1)) i = (mixAt x (ts.take k) i ^^ x.getLsbD (turnedFrom ts[k] i)) := by
  rw [List.take_succ_eq_append_getElem h]; simp only [mixAt, List.foldl_append, List.foldl_cons, List.foldl_nil]

/-- Moved down by n; what comes in is none; a number below nought moves nothing. -/
def shiftB (x : BitVec 32) (n : Int) : BitVec 32 := x >>> n.toNat

theorem Shift_spec (x : BitVec 32) (n : Int) {R : Value → Heap → Prop} {h : Heap} (H : R (wv (shiftB x n)) h) : HC Try.prog F.bits_Shift #[wv x, .int .i64 n] R h := by
  refine bits_Shift.calls ?_
  unfold bits_Shift.body
  refine ⟨by split <;> omega, ?_⟩
  rw [show Int.toNat (if n < 0 then 0 else n) = n.toNat from by split <;> omega, shrBv]
  exact H

end Go.Proofs.Ytgongoaiflphaaa
