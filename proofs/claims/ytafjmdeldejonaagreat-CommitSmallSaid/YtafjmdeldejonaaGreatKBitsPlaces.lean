/-
  The law BitsPlaces: what it answers.
-/
import Derived.Test.YtafjmdeldejonaaGreatKWords
import Derived.Test.YtafjmdeldejonaaGreatKBitsRules
set_option linter.unusedSimpArgs false
set_option linter.unusedVariables false
namespace Go.Proofs.YtafjmdeldejonaaGreat
open Go Go.Ev

theorem refChoose_spec (x a b : BitVec 32) {R : Value → Heap → Prop} {h : Heap} (H : R (wv (b ^^^ (x &&& (a ^^^ b)))) h) : HC Tryz.prog F.ref01_Choose #[wv x, wv a, wv b] R h := by
  refine ref01_Choose.calls ?_
  unfold ref01_Choose.body
  refine loopW_rule (fun st h' => ∃ i : Nat, i ≤ 32 ∧ st = (((lowB (fun j => if x.getLsbD j then a.getLsbD j else b.getLsbD j) i).toNat : Int), (i : Int)) ∧ h = h') (fun st => 32 - st.2.toNat) ⟨0, by omega, rfl, rfl⟩ ?_
  rintro X _ _ ⟨i, hi, rfl, rfl⟩ hX
  try dsimp only
  by_cases hlt : i < 32
  · rw [if_pos (by simp; omega)]
    have fin : ∀ v : Bool, v = (if x.getLsbD i then a.getLsbD i else b.getLsbD i) → X (IntKind.u32.wrap (((lowB (fun j => if x.getLsbD j then a.getLsbD j else b.getLsbD j) i).toNat : Int) + ((if v then 1#32 <<< i else 0#32 : BitVec 32).toNat : Int)), IntKind.i64.wrap ((i : Int) + 1)) h := by
      intro v hv
      subst hv
      rw [addBv, wrapSucc (by omega)]
      exact hX _ _ ⟨i + 1, by omega, rfl, rfl⟩ (by simp; omega)
    refine bit_spec ⟨_, rfl, ?_⟩
    cases hx : x.getLsbD i with
    | true =>
      try dsimp only
      rw [if_pos rfl]
      refine bit_spec ⟨_, rfl, ?_⟩
      cases ha : a.getLsbD i with
      | true =>
        try dsimp only
        rw [if_pos rfl]
        exact place_spec ⟨_, rfl, fin true (by simp [hx, ha])⟩
      | false =>
        try dsimp only
        rw [if_neg (by simp)]
        refine bit_spec ⟨_, rfl, ?_⟩
        try dsimp only
        rw [hx, if_neg (by simp)]
        exact place_spec ⟨_, rfl, fin false (by simp [hx, ha])⟩
    | false =>
      try dsimp only
      rw [if_neg (by simp)]
      refine bit_spec ⟨_, rfl, ?_⟩
      try dsimp only
      rw [hx, if_pos (by simp)]
      refine bit_spec ⟨_, rfl, ?_⟩
      exact place_spec ⟨_, rfl, fin _ (by simp [hx])⟩
  · rw [if_neg (by simp; omega)]
    have : i = 32 := by omega
    subst this
    rw [lowB_eq (x := b ^^^ (x &&& (a ^^^ b))) (fun j hj => by
      rw [BitVec.getLsbD_xor, BitVec.getLsbD_and, BitVec.getLsbD_xor]
      cases x.getLsbD j <;> cases a.getLsbD j <;> cases b.getLsbD j <;> rfl)]
    exact H

theorem refMost_spec (s : Sl) (ws : List (BitVec 32)) {R : Value → Heap → Prop} {h : Heap} (hr : Rd 1 h s (ws.map wv)) (hl : ws.length ≤ 1000000000)
    (H : R (wv (mostB ws 32)) h) : HC Tryz.prog F.ref01_Most #[.slice s.a s.n s.c] R h := by
  refine ref01_Most.calls (words0 := s) ?_
  unfold ref01_Most.body
  have hn : s.n = ws.length := by have := hr.len; simpa using this
  refine loopW_rule (fun st h' => ∃ k : Nat, k ≤ 32 ∧ st = (((lowB (fun j => decide (2 * ones j ws > ws.length)) k).toNat : Int), (k : Int)) ∧ h = h') (fun st => 32 - st.2.toNat) ⟨0, by omega, rfl, rfl⟩ ?_
  rintro X _ _ ⟨k, hk, rfl, rfl⟩ hX
  try dsimp only
  by_cases hk32 : k < 32
  · rw [if_pos (by simp; omega)]
    refine loopW_rule (fun st h' => ∃ i : Nat, i ≤ ws.length ∧ st = (2 * (ones k (ws.take i) : Int) - i, (i : Int)) ∧ h = h') (fun st => ws.length - st.2.toNat) ⟨0, by omega, rfl, rfl⟩ ?_
    rintro Y _ _ ⟨i, hi, rfl, rfl⟩ hY
    try dsimp only
    have hones : ones k (ws.take i) ≤ i := by
      have h1 := List.countP_le_length (p := fun x : BitVec 32 => x.getLsbD k) (l := ws.take i)
      have h2 := List.length_take_le i ws
      unfold ones; omega
    by_cases hlt : i < ws.length
    · rw [if_pos (by simp [hn, hlt])]
      refine idxLoadN hr (by kernel_rfl) (k := .int .u32) (ws[i].toNat : Int) (getElem?_map_lt _ hlt) ?_
      refine bit_spec ⟨_, rfl, ?_⟩
      have hs := ones_succ k ws i hlt
      try dsimp only
      rw [wrapSucc (by omega)]
      cases hb : ws[i].getLsbD k with
      | true =>
        rw [if_pos rfl, wrapI64 (by omega) (by omega)]
        refine hY _ _ ⟨i + 1, by omega, ?_, rfl⟩ (by simp; omega)
        rw [hs, hb, if_pos rfl]
        congr 1
        omega
      | false =>
        rw [if_neg (by simp), wrapI64 (by omega) (by omega)]
        refine hY _ _ ⟨i + 1, by omega, ?_, rfl⟩ (by simp; omega)
        rw [hs, hb, if_neg (by simp)]
        congr 1
        omega
    · rw [if_neg (by simp [hn]; omega)]
      have : i = ws.length := by omega
      subst this
      rw [List.take_length] at *
      rw [show decide (2 * (ones k ws : Int) - (ws.length : Int) > 0) = decide (2 * ones k ws > ws.length) from by
        apply decide_eq_decide.2; omega]
      refine place_spec ⟨_, rfl, ?_⟩
      try dsimp only
      rw [addBv, wrapSucc (by omega)]
      exact hX _ _ ⟨k + 1, by omega, rfl, rfl⟩ (by simp; omega)
  · rw [if_neg (by simp; omega)]
    have : k = 32 := by omega
    subst this
    rw [lowB_eq (x := mostB ws 32) (fun j hj => by rw [getLsbD_mostB ws j 32 (by omega)]; simp [hj])]
    exact H

theorem refSum_spec (s : Sl) (ws : List (BitVec 32)) {R : Value → Heap → Prop} {h : Heap} (hr : Rd 1 h s (ws.map wv)) (hl : ws.length ≤ 1000000000)
    (H : R (wv ws.sum) h) : HC Tryz.prog F.ref01_Sum #[.slice s.a s.n s.c] R h := by
  refine ref01_Sum.calls (words0 := s) ?_
  unfold ref01_Sum.body
  have hn : s.n = ws.length := by have := hr.len; simpa using this
  refine loopW_rule (fun st h' => ∃ i : Nat, i ≤ ws.length ∧ st = (((ws.take i).sum.toNat : Int), (i : Int)) ∧ h = h') (fun st => ws.length - st.2.toNat) ⟨0, by omega, rfl, rfl⟩ ?_
  rintro X _ _ ⟨i, hi, rfl, rfl⟩ hX
  try dsimp only
  by_cases hlt : i < ws.length
  · rw [if_pos (by simp [hn, hlt])]
    refine idxLoadN hr (by kernel_rfl) (k := .int .u32) (ws[i].toNat : Int) (getElem?_map_lt _ hlt) ?_
    refine ⟨by decide, ?_⟩
    have h1 := (ws.take i).sum.isLt
    have h2 := ws[i].isLt
    rw [wrapU64 (n := (ws[i].toNat : Int)) (by omega) (by omega), wrapU64 (by omega) (by omega), wrapSucc (by omega)]
    refine hX _ _ ⟨i + 1, by omega, ?_, rfl⟩ (by simp; omega)
    have : (ws.take (i + 1)).sum = (ws.take i).sum + ws[i] := by
      rw [List.take_succ_eq_append_getElem hlt, List.sum_append]; simp
    rw [this, BitVec.toNat_add, Int.tmod_eq_emod_of_nonneg (by omega)]
    congr 1
  · rw [if_neg (by simp [hn]; omega)]
    have : i = ws.length := by omega
    subst this
    rw [List.take_length] at *
    rw [wrapBv]
    exact H

end Go.Proofs.YtafjmdeldejonaaGreat
