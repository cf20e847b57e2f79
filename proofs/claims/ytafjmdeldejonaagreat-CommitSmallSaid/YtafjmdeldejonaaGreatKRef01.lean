/-
  What the functions of the document's own package for the layer 01 answer.
-/
import Derived.Test.YtafjmdeldejonaaGreatKBits
import Derived.Test.YtafjmdeldejonaaGreatKRows
set_option linter.unusedSimpArgs false
set_option linter.unusedVariables false
namespace Go.Proofs.YtafjmdeldejonaaGreat
open Go Go.Ev

/-- The word whose places below n are what f says. -/
def lowB (f : Nat → Bool) : Nat → BitVec 32
  | 0 => 0
  | n + 1 => lowB f n + (if f n then 1#32 <<< n else 0#32)

theorem lowB_get (f : Nat → Bool) : ∀ (n : Nat), n ≤ 32 → ∀ j, (lowB f n).getLsbD j = (decide (j < n) && f j)
  | 0, _, j => by simp [lowB]
  | n + 1, hn, j => by
    have ih := lowB_get f n (by omega)
    rw [lowB]
    split
    · rename_i hf
      have hz : lowB f n &&& 1#32 <<< n = 0#32 := by
        apply BitVec.eq_of_getLsbD_eq
        intro i hi
        rw [BitVec.getLsbD_and, ih, BitVec.getLsbD_shiftLeft]
        by_cases h1 : i < n
        · simp [h1]
        · simp [h1]
      rw [BitVec.add_eq_or_of_and_eq_zero _ _ hz, BitVec.getLsbD_or, ih, BitVec.getLsbD_shiftLeft]
      by_cases h1 : j < n
      · simp [h1, show j < n + 1 from by omega]
      · by_cases h2 : j = n
        · subst h2; simp [hf, show j < 32 from by omega]
        · have h3 : ¬ j < n + 1 := by omega
          have h4 : (1#32).getLsbD (j - n) = false := by
            rw [BitVec.getLsbD_one]; simp; omega
          simp [h1, h3, h4]
    · rename_i hf
      rw [BitVec.add_zero, ih]
      by_cases h1 : j < n
      · simp [h1, show j < n + 1 from by omega]
      · by_cases h2 : j = n
        · subst h2; simp [hf]
        · have h3 : ¬ j < n + 1 := by omega
          simp [h1, h3]

theorem lowB_eq {f : Nat → Bool} {x : BitVec 32} (h : ∀ j, j < 32 → f j = x.getLsbD j) : lowB f 32 = x := by
  apply BitVec.eq_of_getLsbD_eq
  intro i hi
  rw [lowB_get f 32 (by omega), h i hi]
  simp [hi]

theorem place_spec {k : Nat} {b : Bool} {R : Value → Heap → Prop} {h : Heap} (H : R (wv (if b then 1#32 <<< k else 0#32)) h) : HC Tryz.prog F.ref01_place #[.int .i64 (k : Int), .bool b] R h := by
  refine ref01_place.calls ?_
  unfold ref01_place.body
  cases b with
  | true =>
    rw [if_pos rfl]
    refine ⟨by omega, ?_⟩
    rw [show Int.toNat (k : Int) = k from Int.toNat_natCast k, show (1 : Int) = ((1#32).toNat : Int) from rfl, shlBv]
    exact H
  | false =>
    rw [if_neg (by simp)]
    exact H

theorem bit_spec {x : BitVec 32} {k : Nat} {R : Value → Heap → Prop} {h : Heap} (H : R (.bool (x.getLsbD k)) h) : HC Tryz.prog F.ref01_bit #[wv x, .int .i64 (k : Int)] R h := by
  refine ref01_bit.calls ?_
  unfold ref01_bit.body
  refine ⟨by omega, by decide, ?_⟩
  rw [show Int.toNat (k : Int) = k from Int.toNat_natCast k, shrBv]
  have e : (Int.tmod ((x >>> k).toNat : Int) 2 == 1) = x.getLsbD k := by
    rw [Int.tmod_eq_emod_of_nonneg (by omega)]
    have h1 : (((x >>> k).toNat : Int) % 2) = (((x >>> k).toNat % 2 : Nat) : Int) := by omega
    rw [h1]
    have h2 : (x >>> k).getLsbD 0 = x.getLsbD k := by simp [BitVec.getLsbD_ushiftRight]
    rw [← h2, BitVec.getLsbD, Nat.testBit_zero]
    generalize (x >>> k).toNat = m
    rcases Nat.mod_two_eq_zero_or_one m with h | h <;> simp [h]
  rw [e]
  exact H

theorem low_spec {n : Int} (hn : -9223372036854775808 ≤ n ∧ n ≤ 9223372036854775807) {R : Value → Heap → Prop} {h : Heap} (H : R (.int .i64 (n % 32)) h) : HC Tryz.prog F.ref01_low #[.int .i64 n] R h := by
  refine ref01_low.calls ?_
  unfold ref01_low.body
  have h1 := Int.tmod_add_mul_tdiv n 32
  have h2 := Int.tmod_lt_of_pos n (b := 32) (by decide)
  have h3 := Int.lt_tmod_of_pos n (b := 32) (by decide)
  refine ⟨by decide, ?_⟩
  by_cases hl : Int.tmod n 32 < 0
  · rw [if_pos (by simpa using hl), wrapI64 (by omega) (by omega)]
    rw [show Int.tmod n 32 + 32 = n % 32 from by omega]
    exact H
  · rw [if_neg (by simpa using hl)]
    rw [show Int.tmod n 32 = n % 32 from by omega]
    exact H

/-- The place that is turned to place i. -/
def turnedFrom (n : Int) (i : Nat) : Nat := ((i + n % 32) % 32).toNat

theorem turnB_get (x : BitVec 32) (n : Int) (i : Nat) (hi : i < 32) : (turnB x n).getLsbD i = x.getLsbD (turnedFrom n i) := by
  unfold turnB turnedFrom
  rw [BitVec.getLsbD_rotateRight]
  have h1 : (n % 32).toNat % 32 = (n % 32).toNat := by omega
  rw [h1]
  by_cases h2 : i < 32 - (n % 32).toNat
  · simp only [h2, decide_true, cond_true, if_true]
    congr 1; omega
  · simp only [h2, decide_false, cond_false, if_false, hi, Bool.true_and]
    have : i - (32 - (n % 32).toNat) = ((i + n % 32) % 32).toNat := by omega
    simp [this, hi]

theorem tmod32 {n : Int} (h0 : 0 ≤ n) : Int.tmod n 32 = n % 32 := Int.tmod_eq_emod_of_nonneg h0

/-- A place of a word turned by some. -/
def mixAt (x : BitVec 32) (ts : List Int) (i : Nat) : Bool := ts.foldl (fun b t => b ^^ x.getLsbD (turnedFrom t i)) false

theorem mixB_get (x : BitVec 32) (i : Nat) (hi : i < 32) : ∀ (ts : List Int), (mixB x ts).getLsbD i = mixAt x ts i := by
  unfold mixB mixAt
  suffices ∀ (ts : List Int) (a : BitVec 32), (ts.foldl (fun a n => a ^^^ turnB x n) a).getLsbD i = ts.foldl (fun b t => b ^^ x.getLsbD (turnedFrom t i)) (a.getLsbD i) by
    intro ts; simpa using this ts 0
  intro ts
  induction ts with
  | nil => intro a; rfl
  | cons t ts ih =>
    intro a
    rw [List.foldl_cons, List.foldl_cons, ih, BitVec.getLsbD_xor, turnB_get x t i hi]

theorem mixAt_succ (x : BitVec 32) (ts : List Int) (i k : Nat) (h : k < ts.length) : mixAt x (ts.take (k + 1)) i = (mixAt x (ts.take k) i ^^ x.getLsbD (turnedFrom ts[k] i)) := by
  rw [List.take_succ_eq_append_getElem h]; simp only [mixAt, List.foldl_append, List.foldl_cons, List.foldl_nil]

theorem refMix_spec (x : BitVec 32) (s : Sl) (ts : List Int) {R : Value → Heap → Prop} {h : Heap} (hr : Rd 1 h s (ts.map (.int .i64))) (hl : ts.length ≤ 1000000000) (hts : ∀ n ∈ ts, -9223372036854775808 ≤ n ∧ n ≤ 9223372036854775807)
    (H : R (wv (mixB x ts)) h) : HC Tryz.prog F.ref01_Mix #[wv x, .slice s.a s.n s.c] R h := by
  refine ref01_Mix.calls (turns1 := s) ?_
  unfold ref01_Mix.body
  have hn : s.n = ts.length := by have := hr.len; simpa using this
  refine loopW_rule (fun st h' => ∃ i : Nat, i ≤ 32 ∧ st = (((lowB (mixAt x ts) i).toNat : Int), (i : Int)) ∧ h = h') (fun st => 32 - st.2.toNat) ⟨0, by omega, rfl, rfl⟩ ?_
  rintro X _ _ ⟨i, hi, rfl, rfl⟩ hX
  try dsimp only
  by_cases hlt : i < 32
  · rw [if_pos (by simp; omega)]
    refine loopW_rule (fun st h' => ∃ k : Nat, k ≤ ts.length ∧ st = (mixAt x (ts.take k) i, (k : Int)) ∧ h = h') (fun st => ts.length - st.2.toNat) ⟨0, by omega, rfl, rfl⟩ ?_
    rintro Y _ _ ⟨k, hk, rfl, rfl⟩ hY
    try dsimp only
    by_cases hk2 : k < ts.length
    · rw [if_pos (by simp; omega)]
      refine idxLoadN hr (by kernel_rfl) (k := .int .i64) ts[k] (getElem?_map_lt _ hk2) ?_
      refine low_spec (hts _ (List.getElem_mem hk2)) ⟨_, rfl, by decide, ?_⟩
      try dsimp only
      rw [wrapI64 (n := (i : Int) + _) (by omega) (by omega), tmod32 (by omega), show ((i : Int) + ts[k] % 32) % 32 = (turnedFrom ts[k] i : Int) from by unfold turnedFrom; omega]
      refine bit_spec ⟨_, rfl, ?_⟩
      try dsimp only
      rw [wrapSucc (by omega)]
      have hstep := mixAt_succ x ts i k hk2
      cases hb : x.getLsbD (turnedFrom ts[k] i) with
      | true =>
        rw [hb] at hstep
        rw [if_pos rfl]
        exact hY _ _ ⟨k + 1, by omega, by rw [hstep]; simp, rfl⟩ (by simp; omega)
      | false =>
        rw [hb] at hstep
        rw [if_neg (by simp)]
        exact hY _ _ ⟨k + 1, by omega, by rw [hstep]; simp, rfl⟩ (by simp; omega)
    · rw [if_neg (by simp; omega)]
      have : k = ts.length := by omega
      subst this
      rw [List.take_length]
      refine place_spec ⟨_, rfl, ?_⟩
      try dsimp only
      rw [addBv, wrapSucc (by omega)]
      exact hX _ _ ⟨i + 1, by omega, rfl, rfl⟩ (by simp; omega)
  · rw [if_neg (by simp; omega)]
    have : i = 32 := by omega
    subst this
    rw [lowB_eq (fun j hj => (mixB_get x j hj ts).symm)]
    exact H

/-- Moved down by n; what comes in is none; a number below nought moves nothing. -/
def shiftB (x : BitVec 32) (n : Int) : BitVec 32 := x >>> n.toNat

theorem Shift_spec (x : BitVec 32) (n : Int) {R : Value → Heap → Prop} {h : Heap} (H : R (wv (shiftB x n)) h) : HC Tryz.prog F.bits_Shift #[wv x, .int .i64 n] R h := by
  refine bits_Shift.calls ?_
  unfold bits_Shift.body
  refine ⟨by split <;> omega, ?_⟩
  rw [show Int.toNat (if n < 0 then 0 else n) = n.toNat from by split <;> omega, shrBv]
  exact H

theorem refShift_spec (x : BitVec 32) (n : Int) (hn : n ≤ 9223372036854775807) {R : Value → Heap → Prop} {h : Heap} (H : R (wv (shiftB x n)) h) : HC Tryz.prog F.ref01_Shift #[wv x, .int .i64 n] R h := by
  refine ref01_Shift.calls ?_
  unfold ref01_Shift.body
  by_cases h0 : n < 0
  · rw [if_pos (by simpa using h0)]
    have : shiftB x n = x := by unfold shiftB; rw [show n.toNat = 0 from by omega]; simp
    rw [this] at H
    exact H
  · rw [if_neg (by simpa using h0)]
    refine loopW_rule (fun st h' => ∃ i : Nat, i ≤ 32 ∧ st = (((lowB (fun j => decide (n < 32 - j) && x.getLsbD (j + n.toNat)) i).toNat : Int), (i : Int)) ∧ h = h') (fun st => 32 - st.2.toNat) ⟨0, by omega, rfl, rfl⟩ ?_
    rintro X _ _ ⟨i, hi, rfl, rfl⟩ hX
    try dsimp only
    by_cases hlt : i < 32
    · rw [if_pos (by simp; omega), wrapI64 (n := 32 - (i : Int)) (by omega) (by omega)]
      by_cases hs : n < 32 - (i : Int)
      · rw [if_pos (by simpa using hs), wrapI64 (n := (i : Int) + n) (by omega) (by omega), show (i : Int) + n = ((i + n.toNat : Nat) : Int) from by omega]
        refine bit_spec ⟨_, rfl, ?_⟩
        refine place_spec ⟨_, rfl, ?_⟩
        try dsimp only
        rw [addBv, wrapSucc (by omega)]
        refine hX _ _ ⟨i + 1, by omega, ?_, rfl⟩ (by simp; omega)
        simp only [lowB, hs, decide_true, Bool.true_and]
      · rw [if_neg (by simpa using hs)]
        refine place_spec ⟨_, rfl, ?_⟩
        try dsimp only
        rw [addBv, wrapSucc (by omega)]
        refine hX _ _ ⟨i + 1, by omega, ?_, rfl⟩ (by simp; omega)
        simp only [lowB, hs, decide_false, Bool.false_and]
    · rw [if_neg (by simp; omega)]
      have : i = 32 := by omega
      subst this
      rw [lowB_eq (x := shiftB x n) (fun j hj => by
        unfold shiftB
        rw [BitVec.getLsbD_ushiftRight, Nat.add_comm]
        by_cases h1 : n < 32 - (j : Int)
        · simp [h1]
        · simp only [h1, decide_false, Bool.false_and]
          exact (BitVec.getLsbD_of_ge x _ (by omega)).symm)]
      exact H

end Go.Proofs.YtafjmdeldejonaaGreat
