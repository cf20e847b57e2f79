/-
  Rows of words and of bytes, continued: bits.Words, the document's Bytes.
-/
import Derived.Test.YtgggpnjjkcfckaaKWords
set_option linter.unusedSimpArgs false
set_option linter.unusedVariables false
namespace Go.Proofs.Ytgggpnjjkcfckaa
open Go Go.Ev

theorem refByteV (w : BitVec 32) (j : Nat) (hj : j < 4) : IntKind.u8.wrap (Int.tmod (Int.fdiv (w.toNat : Int) (2 ^ min (Int.toNat (8 * (3 - (j : Int)))) (IntKind.bits .u32))) 256) = (be4 w)[j]'(by simp [be4]; omega) := by
  rw [shrBv, Int.tmod_eq_emod_of_nonneg (by omega), wrapU8_mod, BitVec.toNat_ushiftRight, Nat.shiftRight_eq_div_pow]
  have : j = 0 ∨ j = 1 ∨ j = 2 ∨ j = 3 := by omega
  rcases this with rfl | rfl | rfl | rfl <;> simp [be4] <;> omega

theorem refBytes_spec (s : Sl) (ws : List (BitVec 32)) {R : Value → Heap → Prop} {h : Heap} (hr : Rd 1 h s (ws.map wv)) (hl : ws.length ≤ 100000000)
    (H : ∀ (s' : Sl) (h' : Heap), Own T.uint8 1 h' s' ((ws.flatMap be4).map bv) → Ext h h' → (∀ b, s'.blk = some b → h.size ≤ b) → R (.slice s'.a s'.n s'.c) h') :
    HC Try.prog F.ref01_Bytes #[.slice s.a s.n s.c] R h := by
  refine ref01_Bytes.calls (words0 := s) ?_
  unfold ref01_Bytes.body
  have hn : s.n = ws.length := by have := hr.len; simpa using this
  have hfl : ∀ l : List (BitVec 32), (l.flatMap be4).length = 4 * l.length := fun l => by
    induction l with
    | nil => rfl
    | cons a l ih => rw [List.flatMap_cons, List.length_append, ih]; simp [be4]; omega
  refine loopW_rule (fun st h' => ∃ (i : Nat) (s' : Sl), i ≤ ws.length ∧ st = (s', (i : Int)) ∧ Own T.uint8 1 h' s' (((ws.take i).flatMap be4).map bv) ∧ Ext h h' ∧ (∀ b, s'.blk = some b → h.size ≤ b)) (fun st => ws.length - st.2.toNat)
    ⟨0, ⟨none, 0, 0⟩, by omega, rfl, Own.nil _ _ _, Frm.refl _ _, by simp [Sl.blk]⟩ ?_
  rintro X _ h1 ⟨i, s', hi, rfl, hown, hext, hblk⟩ hX
  dsimp only
  by_cases hlt : i < ws.length
  · rw [if_pos (by simp [hn, hlt])]
    refine loopW_rule (fun st h' => ∃ (j : Nat) (s2 : Sl), j ≤ 4 ∧ st = (s2, 3 - (j : Int)) ∧ Own T.uint8 1 h' s2 (((ws.take i).flatMap be4 ++ (be4 ws[i]).take j).map bv) ∧ Ext h h' ∧ (∀ b, s2.blk = some b → h.size ≤ b)) (fun st => (st.2 + 1).toNat)
      ⟨0, s', by omega, rfl, by simpa using hown, hext, hblk⟩ ?_
    rintro Y _ h2 ⟨j, s2, hj, rfl, hown2, hext2, hblk2⟩ hY
    dsimp only
    by_cases hj4 : j < 4
    · rw [if_pos (by simp; omega)]
      refine idxLoadN (hr.ext hext2) (by kernel_rfl) (k := .int .u32) (ws[i].toNat : Int) (getElem?_map_lt _ hlt) ?_
      rw [wrapI64 (n := 8 * (3 - (j : Int))) (by omega) (by omega)]
      refine ⟨by omega, by decide, ?_⟩
      rw [refByteV ws[i] j hj4]
      refine pushByte hown2 (by simp [hfl]; omega) ?_
      intro s3 h3 hown3 hf3 hblk3
      rw [wrapI64 (n := 3 - (j : Int) - 1) (by omega) (by omega)]
      refine hY _ _ ⟨j + 1, s3, by omega, ?_, ?_, ?_, ?_⟩ (by simp; omega)
      · rw [show 3 - (j : Int) - 1 = 3 - ((j + 1 : Nat) : Int) from by omega]
      · rw [List.take_succ_eq_append_getElem (by simp [be4]; omega), ← List.append_assoc]
        exact hown3
      · refine hext2.trans' hf3 ?_
        intro k hk hk2
        exact absurd (hblk2 k hk2) (by omega)
      · intro b hb
        rcases hblk3 b hb with y | y
        · exact hblk2 b y
        · have := hext2.1; omega
    · rw [if_neg (by simp; omega)]
      have : j = 4 := by omega
      subst this
      rw [wrapSucc (by omega)]
      refine hX _ _ ⟨i + 1, s2, by omega, rfl, ?_, hext2, hblk2⟩ (by simp; omega)
      rw [List.take_succ_eq_append_getElem hlt, List.flatMap_append, List.flatMap_cons, List.flatMap_nil, List.append_nil]
      rw [show (be4 ws[i]).take 4 = be4 ws[i] from List.take_of_length_le (by simp [be4])] at hown2
      exact hown2
  · rw [if_neg (by simp [hn]; omega)]
    have : i = ws.length := by omega
    subst this
    rw [List.take_length] at hown
    exact H s' h1 hown hext hblk

theorem ofWords {zs : List Int} (h : ∀ n ∈ zs, IntKind.u32.min ≤ n ∧ n ≤ IntKind.u32.max) : ∃ ws : List (BitVec 32), zs.map (Value.int .u32) = ws.map wv ∧ ws.length = zs.length := by
  induction zs with
  | nil => exact ⟨[], rfl, rfl⟩
  | cons z zs ih =>
    obtain ⟨ws, h1, h2⟩ := ih fun n hn => h n (List.mem_cons_of_mem _ hn)
    have hz := h z List.mem_cons_self
    have hmin : IntKind.u32.min = 0 := rfl
    have hmax : IntKind.u32.max = 4294967295 := rfl
    obtain ⟨w, rfl⟩ := ltU32 (n := z) (by omega) (by omega)
    exact ⟨w :: ws, by simp [h1], by simp [h2]⟩

theorem ofBytes {zs : List Int} (h : ∀ n ∈ zs, IntKind.u8.min ≤ n ∧ n ≤ IntKind.u8.max) : ∀ x ∈ zs, isByte x := fun x hx => by
  have hz := h x hx
  have hmin : IntKind.u8.min = 0 := rfl
  have hmax : IntKind.u8.max = 255 := rfl
  unfold isByte
  omega

end Go.Proofs.Ytgggpnjjkcfckaa
