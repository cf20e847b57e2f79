/-
  What the functions of the package bits, and what the law's own helpers, answer.
-/
import Derived.Test.YtijipdaofojbiaaBv
import Derived.Test.YtijipdaofojbiaaKKit
set_option linter.unusedSimpArgs false
set_option linter.unusedVariables false
namespace Go.Proofs.Ytijipdaofojbiaa
open Go Go.Ev

/-- Words as values; bytes as values. -/
abbrev wv (x : BitVec 32) : Value := .int .u32 (x.toNat : Int)
abbrev bv (x : Int) : Value := .int .u8 x

theorem RotateLeft32_spec (x : BitVec 32) (k : Int) {R : Value → Heap → Prop} {h : Heap} (H : R (wv (x.rotateLeft (k % 32).toNat)) h) : HC Try.prog F.math_bits_RotateLeft32 #[wv x, .int .i64 k] R h := by
  refine math_bits_RotateLeft32.calls ?_
  unfold math_bits_RotateLeft32.body
  simp only [andU64]
  have hk : 0 ≤ k % 32 ∧ k % 32 < 32 := by omega
  have h2 : IntKind.u64.wrap (32 - k % 32) = 32 - k % 32 := wrapU64 (by omega) (by omega)
  simp only [h2, shlBv, shrBv, ofIntU32]
  refine ⟨hk.1, by omega, ?_⟩
  have e : ((x <<< (k % 32).toNat ||| x >>> (32 - k % 32).toNat) : BitVec 32) = x.rotateLeft (k % 32).toNat := by
    rw [BitVec.rotateLeft_def]
    have h1 : (k % 32).toNat % 32 = (k % 32).toNat := by omega
    have h3 : (32 - k % 32).toNat = 32 - (k % 32).toNat := by omega
    rw [h1, h3]
  show R (Value.int .u32 (IntKind.u32.wrap ((x <<< (k % 32).toNat ||| x >>> (32 - k % 32).toNat : BitVec 32).toNat : Int))) h
  rw [e, wrapBv]
  exact H

theorem Turn_spec (x : BitVec 32) (n : Int) (hn : -9223372036854775808 ≤ n ∧ n ≤ 9223372036854775807) {R : Value → Heap → Prop} {h : Heap} (H : R (wv (turnB x n)) h) : HC Try.prog F.bits_Turn #[wv x, .int .i64 n] R h := by
  refine bits_Turn.calls ?_
  unfold bits_Turn.body
  refine ⟨by decide, ?_⟩
  refine RotateLeft32_spec x _ ⟨_, rfl, ?_⟩
  have ht : -31 ≤ Int.tmod n 32 ∧ Int.tmod n 32 ≤ 31 ∧ (n - Int.tmod n 32) % 32 = 0 := by
    have h1 := Int.tmod_add_mul_tdiv n 32
    have h2 := Int.tmod_lt_of_pos n (b := 32) (by decide)
    have h3 := Int.lt_tmod_of_pos n (b := 32) (by decide)
    omega
  rw [wrapI64 (by omega) (by omega)]
  have e : x.rotateLeft ((0 - Int.tmod n 32) % 32).toNat = turnB x n := by
    unfold turnB
    have hr : (n % 32).toNat < 32 := by omega
    by_cases h0 : n % 32 = 0
    · have : ((0 - Int.tmod n 32) % 32).toNat = 0 := by omega
      rw [this, h0]
      have hz : x >>> 32 = 0#32 := by
        apply BitVec.eq_of_toNat_eq
        rw [BitVec.toNat_ushiftRight, Nat.shiftRight_eq_div_pow]
        simpa using Nat.div_eq_of_lt x.isLt
      simp [BitVec.rotateLeft_def, BitVec.rotateRight_def, hz]
    · have h1 : ((0 - Int.tmod n 32) % 32).toNat = 32 - (n % 32).toNat := by omega
      rw [h1, BitVec.rotateLeft_def, BitVec.rotateRight_def]
      have h2 : (32 - (n % 32).toNat) % 32 = 32 - (n % 32).toNat := by omega
      have h3 : (n % 32).toNat % 32 = (n % 32).toNat := by omega
      have h4 : 32 - (32 - (n % 32).toNat) = (n % 32).toNat := by omega
      rw [h2, h3, h4, BitVec.or_comm]
  rw [e]
  exact H

/-- A word turned by some, place by place. -/
def mixB (x : BitVec 32) (ts : List Int) : BitVec 32 := ts.foldl (fun a n => a ^^^ turnB x n) 0

theorem xorV (x y : BitVec 32) : IntKind.u32.wrap ((BitVec.ofInt (IntKind.bits .u32) (x.toNat : Int) ^^^ BitVec.ofInt (IntKind.bits .u32) (y.toNat : Int)).toNat : Int) = ((x ^^^ y).toNat : Int) := by
  rw [ofIntU32, ofIntU32]; exact wrapBv (x ^^^ y)
theorem andV (x y : BitVec 32) : IntKind.u32.wrap ((BitVec.ofInt (IntKind.bits .u32) (x.toNat : Int) &&& BitVec.ofInt (IntKind.bits .u32) (y.toNat : Int)).toNat : Int) = ((x &&& y).toNat : Int) := by
  rw [ofIntU32, ofIntU32]; exact wrapBv (x &&& y)
theorem orV (x y : BitVec 32) : IntKind.u32.wrap ((BitVec.ofInt (IntKind.bits .u32) (x.toNat : Int) ||| BitVec.ofInt (IntKind.bits .u32) (y.toNat : Int)).toNat : Int) = ((x ||| y).toNat : Int) := by
  rw [ofIntU32, ofIntU32]; exact wrapBv (x ||| y)

theorem getElem?_map_lt {α β : Type} (f : α → β) {l : List α} {i : Nat} (hi : i < l.length) : (l.map f)[i]? = some (f l[i]) := by simp [hi]

theorem Mix_spec (x : BitVec 32) (s : Sl) (ts : List Int) {R : Value → Heap → Prop} {h : Heap} (hr : Rd 1 h s (ts.map (.int .i64))) (hl : ts.length ≤ 1000000000) (hts : ∀ n ∈ ts, -9223372036854775808 ≤ n ∧ n ≤ 9223372036854775807)
    (H : R (wv (mixB x ts)) h) : HC Try.prog F.bits_Mix #[wv x, .slice s.a s.n s.c] R h := by
  refine bits_Mix.calls (turns1 := s) ?_
  unfold bits_Mix.body
  have hn : s.n = ts.length := by have := hr.len; simpa using this
  refine loopW_rule (fun st h' => ∃ i : Nat, i ≤ ts.length ∧ st = (((mixB x (ts.take i)).toNat : Int), (i : Int)) ∧ h = h') (fun st => ts.length - st.2.toNat) ⟨0, by omega, rfl, rfl⟩ ?_
  rintro X _ _ ⟨i, hi, rfl, rfl⟩ hX
  dsimp only
  by_cases hlt : i < ts.length
  · rw [if_pos (by simp [hn, hlt])]
    refine idxLoadN hr (by kernel_rfl) (k := .int .i64) ts[i] (getElem?_map_lt _ hlt) ?_
    refine Turn_spec x _ (hts _ (List.getElem_mem hlt)) ⟨_, rfl, ?_⟩
    dsimp only
    rw [xorV, wrapSucc (by omega)]
    refine hX _ _ ⟨i + 1, by omega, ?_, rfl⟩ (by simp; omega)
    have : mixB x (ts.take (i + 1)) = mixB x (ts.take i) ^^^ turnB x ts[i] := by
      rw [List.take_succ_eq_append_getElem hlt]; simp only [mixB, List.foldl_append, List.foldl_cons, List.foldl_nil]
    rw [this]
  · rw [if_neg (by simp [hn]; omega)]
    have : i = ts.length := by omega
    subst this
    rw [List.take_length]
    exact H

theorem Choose_spec (x a b : BitVec 32) {R : Value → Heap → Prop} {h : Heap} (H : R (wv (b ^^^ (x &&& (a ^^^ b)))) h) : HC Try.prog F.bits_Choose #[wv x, wv a, wv b] R h := by
  refine bits_Choose.calls ?_
  unfold bits_Choose.body
  rw [xorV a b, andV x (a ^^^ b), xorV b (x &&& (a ^^^ b))]
  exact H

theorem Sum_spec (s : Sl) (ws : List (BitVec 32)) {R : Value → Heap → Prop} {h : Heap} (hr : Rd 1 h s (ws.map wv)) (hl : ws.length ≤ 1000000000)
    (H : R (wv ws.sum) h) : HC Try.prog F.bits_Sum #[.slice s.a s.n s.c] R h := by
  refine bits_Sum.calls (words0 := s) ?_
  unfold bits_Sum.body
  have hn : s.n = ws.length := by have := hr.len; simpa using this
  refine loopW_rule (fun st h' => ∃ i : Nat, i ≤ ws.length ∧ st = (((ws.take i).sum.toNat : Int), (i : Int)) ∧ h = h') (fun st => ws.length - st.2.toNat) ⟨0, by omega, rfl, rfl⟩ ?_
  rintro X _ _ ⟨i, hi, rfl, rfl⟩ hX
  dsimp only
  by_cases hlt : i < ws.length
  · rw [if_pos (by simp [hn, hlt])]
    refine idxLoadN hr (by kernel_rfl) (k := .int .u32) (ws[i].toNat : Int) (getElem?_map_lt _ hlt) ?_
    rw [addBv, wrapSucc (by omega)]
    refine hX _ _ ⟨i + 1, by omega, ?_, rfl⟩ (by simp; omega)
    have : (ws.take (i + 1)).sum = (ws.take i).sum + ws[i] := by
      rw [List.take_succ_eq_append_getElem hlt, List.sum_append]; simp
    rw [this]
  · rw [if_neg (by simp [hn]; omega)]
    have : i = ws.length := by omega
    subst this
    rw [List.take_length] at *
    exact H

theorem zeros_reader : zerosOf Try.prog T.bits_reader = #[.slice none 0 0, .slice none 0 0] := by kernel_rfl

/-- A word's bytes, the highest first. -/
def be4 (w : BitVec 32) : List Int := [((w.toNat / 16777216 % 256 : Nat) : Int), ((w.toNat / 65536 % 256 : Nat) : Int), ((w.toNat / 256 % 256 : Nat) : Int), ((w.toNat % 256 : Nat) : Int)]

theorem byteV (w : BitVec 32) (n : Nat) : IntKind.u8.wrap (Int.fdiv (w.toNat : Int) (2 ^ min n (IntKind.bits .u32))) = ((w.toNat / 2 ^ n % 256 : Nat) : Int) := by
  rw [shrBv, wrapU8_mod, BitVec.toNat_ushiftRight, Nat.shiftRight_eq_div_pow]
  exact (Int.natCast_emod _ _).symm

theorem byteV0 (w : BitVec 32) : IntKind.u8.wrap (w.toNat : Int) = ((w.toNat % 256 : Nat) : Int) := by rw [wrapU8_mod]; exact (Int.natCast_emod _ _).symm

theorem append_u8 {s x : Sl} {vs ws : List Value} {h : Heap} (hs : Own T.uint8 1 h s vs) (hx : Rd 1 h x ws) (hone : ∀ v ∈ ws, v.oneCell' = true) (hlen : s.n + x.n ≤ 1000000000) {K : Sl → Heap → Prop}
    (hK : ∀ (s' : Sl) (h' : Heap), Own T.uint8 1 h' s' (vs ++ ws) → s'.n = s.n + x.n → Frm (fun b => s.blk = some b) h h' → (∀ b, s'.blk = some b → s.blk = some b ∨ h.size ≤ b) → (s'.a = none → s.n + x.n = 0) → K s' h') :
    opK Try.prog .slice (Builtin.append_ #[T.sl_uint8, T.sl_uint8] T.sl_uint8 #[.slice s.a s.n s.c, .slice x.a x.n x.c]) K h := by
  exact append_rule2 (e := T.uint8) (e2 := T.uint8) (sz := 1) (by_ := 1) (z := .int .u8 0) (by kernel_rfl) (by kernel_rfl) (by kernel_rfl) rfl (by omega) hs hx hone hlen hK

theorem row_put_spec (rb : Nat) (s : Sl) (rest : List Value) (e : TypeId) (vs : List Value) (w : BitVec 32) {R : Value → Heap → Prop} {h : Heap}
    (hb : Blk h rb ⟨.slice s.a s.n s.c :: rest⟩ e) (hs : Own T.uint8 1 h s vs) (hne : s.blk ≠ some rb) (hl : s.n ≤ 900000000)
    (H : ∀ (s' : Sl) (h' : Heap), Blk h' rb ⟨.slice s'.a s'.n s'.c :: rest⟩ e → Own T.uint8 1 h' s' (vs ++ (be4 w).map bv) → s'.n = s.n + 4 → s'.blk ≠ some rb → Frm (fun b => b = rb ∨ s.blk = some b) h h' →
      (∀ b, s'.blk = some b → s.blk = some b ∨ h.size ≤ b) → R (.tuple #[]) h') :
    HC Try.prog F.bits_row_put #[.pointer (some ⟨rb, 0, none⟩), wv w] R h := by
  refine bits_row_put.calls ?_
  unfold bits_row_put.body
  refine ⟨_, rfl, _, rfl, ?_⟩
  simp only [addr_add, Nat.add_zero]
  refine loadCell hb (k := .slice) s (by simp [Kd.inj]) ?_
  refine ⟨by decide, by decide, by decide, ?_⟩
  simp only [show Int.toNat 24 = 24 from rfl, show Int.toNat 16 = 16 from rfl, show Int.toNat 8 = 8 from rfl, byteV, byteV0]
  unfold newSlK
  have hrb := lt_of_get hb
  have hs1 : Own T.uint8 1 (h.push (.cells #[bv ((w.toNat / 2 ^ 24 % 256 : Nat) : Int), bv ((w.toNat / 2 ^ 16 % 256 : Nat) : Int), bv ((w.toNat / 2 ^ 8 % 256 : Nat) : Int), bv ((w.toNat % 256 : Nat) : Int)] T.uint8 (0, 0))) s vs :=
    hs.frm (S := fun _ => False) (Ext.push _ _) (fun _ _ x => x)
  refine append_u8 hs1 (Rd.new h _ T.uint8 4 4 rfl) (by simp [Value.oneCell']) (by simp; omega) ?_
  intro s' h' hown hn' hfrm hblk _
  have hext : Frm (fun b => s.blk = some b) h h' := (Ext.push h _).frm.trans' hfrm (fun _ _ x => x)
  have hb' : Blk h' rb ⟨.slice s.a s.n s.c :: rest⟩ e := hext.get hb (fun x => hne x)
  refine ⟨_, rfl, _, rfl, ?_⟩
  simp only [addr_add, Nat.add_zero]
  refine storeCell hb' (by simp) rfl ?_
  intro h'' hb'' hf hsz
  have hne' : s'.blk ≠ some rb := fun x => by
    rcases hblk rb x with y | y
    · exact hne y
    · simp at y; omega
  refine H s' h'' ?_ ?_ ?_ hne' ?_ ?_
  · simpa using hb''
  · have := hown.frm hf (fun b hb x => hne' (by rw [hb, x]))
    simpa [be4] using this
  · simpa using hn'
  · refine (hext.mono fun i _ x => .inr x).trans' hf (fun i _ x => .inl x)
  · intro b hb
    rcases hblk b hb with y | y
    · exact .inl y
    · exact .inr (by simp at y; omega)

theorem Bytes_spec (s : Sl) (ws : List (BitVec 32)) {R : Value → Heap → Prop} {h : Heap} (hr : Rd 1 h s (ws.map wv)) (hl : ws.length ≤ 100000000)
    (H : ∀ (s' : Sl) (h' : Heap), Own T.uint8 1 h' s' ((ws.flatMap be4).map bv) → Ext h h' → (∀ b, s'.blk = some b → h.size ≤ b) → R (.slice s'.a s'.n s'.c) h') :
    HC Try.prog F.bits_Bytes #[.slice s.a s.n s.c] R h := by
  refine bits_Bytes.calls (words0 := s) ?_
  unfold bits_Bytes.body newK
  rw [zeros_reader]
  have hn : s.n = ws.length := by have := hr.len; simpa using this
  have h0 : Blk (h.push (.cells #[.slice none 0 0, .slice none 0 0] T.bits_reader (0, 0))) h.size ⟨.slice none 0 0 :: [.slice none 0 0]⟩ T.bits_reader := push_last _ _
  refine loopW_rule (fun st h' => ∃ (i : Nat) (s' : Sl), i ≤ ws.length ∧ st = (i : Int) ∧ Blk h' h.size ⟨.slice s'.a s'.n s'.c :: [.slice none 0 0]⟩ T.bits_reader ∧ Own T.uint8 1 h' s' (((ws.take i).flatMap be4).map bv) ∧
    s'.n = 4 * i ∧ s'.blk ≠ some h.size ∧ Ext h h' ∧ (∀ b, s'.blk = some b → h.size ≤ b)) (fun st => ws.length - st.toNat)
    ⟨0, ⟨none, 0, 0⟩, by omega, rfl, h0, Own.nil _ _ _, rfl, by simp [Sl.blk], Ext.push _ _, by simp [Sl.blk]⟩ ?_
  rintro X _ h1 ⟨i, s', hi, rfl, hb, hown, hn', hne, hext, hblk⟩ hX
  by_cases hlt : i < ws.length
  · rw [if_pos (by simp [hn, hlt])]
    refine idxLoadN (hr.ext hext) (by kernel_rfl) (k := .int .u32) (ws[i].toNat : Int) (getElem?_map_lt _ hlt) ?_
    refine ⟨_, rfl, ?_⟩
    simp only [addr_add, Nat.add_zero]
    refine row_put_spec h.size s' _ _ _ ws[i] hb hown hne (by omega) ?_
    intro s2 h2 hb2 hown2 hn2 hne2 hf2 hblk2
    refine ⟨(), rfl, ?_⟩
    dsimp only
    rw [wrapSucc (by omega)]
    refine hX _ _ ⟨i + 1, s2, by omega, rfl, hb2, ?_, by omega, hne2, ?_, ?_⟩ (by simp; omega)
    · rw [List.take_succ_eq_append_getElem hlt, List.flatMap_append, List.flatMap_cons, List.flatMap_nil, List.append_nil, List.map_append]
      exact hown2
    · refine hext.trans' hf2 ?_
      rintro j hj (rfl | hj2)
      · exact absurd hj (by omega)
      · exact absurd (hblk j hj2) (by omega)
    · intro b hb
      rcases hblk2 b hb with y | y
      · exact hblk b y
      · have := hext.1; omega
  · rw [if_neg (by simp [hn]; omega)]
    have : i = ws.length := by omega
    subst this
    rw [List.take_length] at hown
    refine ⟨_, rfl, _, rfl, ?_⟩
    simp only [addr_add, Nat.add_zero]
    refine loadCell hb (k := .slice) s' (by simp [Kd.inj]) ?_
    exact H s' h1 hown hext hblk

end Go.Proofs.Ytijipdaofojbiaa
