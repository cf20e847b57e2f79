/-
  Rows of words and of bytes, forth and back: the functions of the package bits, and of the document's own.
-/
import Derived.Test.YtijipdaofojbiaaKRef01
import Derived.Test.YtijipdaofojbiaaRow
import Derived.Test.YtijipdaofojbiaaKTag
set_option linter.unusedSimpArgs false
set_option linter.unusedVariables false
namespace Go.Proofs.Ytijipdaofojbiaa
open Go Go.Ev


/-- Four bytes as a word, the highest first. -/
def wordOf (a b c d : Int) : BitVec 32 := BitVec.ofInt 32 (a * 16777216 + b * 65536 + c * 256 + d)

/-- The words of a row of bytes whose length is four times theirs. -/
def wordsOf : List Int → List (BitVec 32)
  | a :: b :: c :: d :: r => wordOf a b c d :: wordsOf r
  | _ => []

theorem wordOf_toNat {a b c d : Int} (ha : isByte a) (hb : isByte b) (hc : isByte c) (hd : isByte d) : ((wordOf a b c d).toNat : Int) = a * 16777216 + b * 65536 + c * 256 + d := by
  unfold wordOf isByte at *
  rw [BitVec.toNat_ofInt]
  simp only [Nat.reducePow]
  omega

theorem be4_byte (w : BitVec 32) : ∀ x ∈ be4 w, isByte x := by
  intro x hx
  simp only [be4, List.mem_cons, List.mem_nil_iff, or_false] at hx
  unfold isByte
  rcases hx with rfl | rfl | rfl | rfl <;> omega

theorem wordsOf_length : ∀ (bs : List Int), (wordsOf bs).length = bs.length / 4
  | [] => rfl
  | [_] => by simp [wordsOf]
  | [_, _] => by simp [wordsOf]
  | [_, _, _] => by simp [wordsOf]
  | a :: b :: c :: d :: r => by
    rw [wordsOf, List.length_cons, wordsOf_length r]; simp only [List.length_cons]; omega

theorem wordsOf_get : ∀ (bs : List Int) (i : Nat) (h : 4 * i + 3 < bs.length), (wordsOf bs)[i]? = some (wordOf bs[4 * i] bs[4 * i + 1] bs[4 * i + 2] bs[4 * i + 3])
  | [], i, h => by simp at h
  | [_], i, h => by simp only [List.length_cons, List.length_nil] at h; omega
  | [_, _], i, h => by simp only [List.length_cons, List.length_nil] at h; omega
  | [_, _, _], i, h => by simp only [List.length_cons, List.length_nil] at h; omega
  | a :: b :: c :: d :: r, 0, h => rfl
  | a :: b :: c :: d :: r, i + 1, h => by
    have := wordsOf_get r i (by simp at h; omega)
    rw [wordsOf, List.getElem?_cons_succ, this]
    rfl

theorem wordsOf_take (bs : List Int) (i : Nat) (h : 4 * i + 3 < bs.length) : (wordsOf bs).take (i + 1) = (wordsOf bs).take i ++ [wordOf bs[4 * i] bs[4 * i + 1] bs[4 * i + 2] bs[4 * i + 3]] := by
  have h1 := wordsOf_get bs i h
  obtain ⟨h2, h3⟩ := List.getElem?_eq_some_iff.1 h1
  rw [List.take_succ_eq_append_getElem h2, h3]


/-! ### Functions -/

theorem oneBv (xs : List Int) : ∀ v ∈ xs.map bv, v.oneCell' = true := by intro v hv; simp at hv; obtain ⟨_, _, rfl⟩ := hv; rfl
theorem Clone_spec (s : Sl) (vs : List Value) {R : Value → Heap → Prop} {h : Heap} (hr : Rd 1 h s vs) (hone : ∀ v ∈ vs, v.oneCell' = true) (hl : vs.length ≤ 900000000)
    (H : ∀ (s' : Sl) (h' : Heap), Own T.uint8 1 h' s' vs → Ext h h' → (∀ b, s'.blk = some b → h.size ≤ b) → R (.slice s'.a s'.n s'.c) h') : HC Try.prog F.slices_Clone_byte_byte #[.slice s.a s.n s.c] R h := by
  refine slices_Clone_byte_byte.calls (s0 := s) ?_
  unfold slices_Clone_byte_byte.body
  have hn := hr.len
  cases ha : s.a with
  | none =>
    rw [if_pos (show (none : Option Addr).isNone = true from rfl)]
    have hv : vs = [] := by
      rcases hr.2 with h0 | ⟨b, o, c, e, fz, h1, _⟩
      · exact h0
      · rw [ha] at h1; cases h1
    subst hv
    exact H ⟨none, 0, 0⟩ h (Own.nil _ _ _) (Frm.refl _ _) (by simp [Sl.blk])
  | some a =>
    rw [if_neg (by simp)]
    unfold newSlK
    have hp := Ext.push h (.cells #[] T.uint8 (0, 0))
    have hr' : Rd 1 (h.push (.cells #[] T.uint8 (0, 0))) ⟨some a, s.n, s.c⟩ vs := by rw [← ha]; exact hr.ext hp
    refine appendBytes (Own.new h #[] T.uint8 0 rfl) hr' hone (by simp; omega) ?_
    intro s1 h1 hown hn1 hf hb _
    refine H s1 h1 hown ?_ ?_
    · refine hp.trans' hf ?_
      intro i hi hs
      simp [Sl.blk] at hs
      omega
    · intro b hb1
      rcases hb b hb1 with y | y
      · simp [Sl.blk] at y; omega
      · simp at y; omega

theorem or4 {a b c d : Int} (ha : isByte a) (hb : isByte b) (hc : isByte c) (hd : isByte d) :
    IntKind.u32.wrap ((BitVec.ofInt (IntKind.bits .u32) (IntKind.u32.wrap ((BitVec.ofInt (IntKind.bits .u32) (IntKind.u32.wrap ((BitVec.ofInt (IntKind.bits .u32) (IntKind.u32.wrap ((IntKind.u32.wrap a) * 2 ^ min 24 (IntKind.bits .u32))) |||
      BitVec.ofInt (IntKind.bits .u32) (IntKind.u32.wrap ((IntKind.u32.wrap b) * 2 ^ min 16 (IntKind.bits .u32)))).toNat : Int)) ||| BitVec.ofInt (IntKind.bits .u32) (IntKind.u32.wrap ((IntKind.u32.wrap c) * 2 ^ min 8 (IntKind.bits .u32)))).toNat : Int)) |||
      BitVec.ofInt (IntKind.bits .u32) (IntKind.u32.wrap d)).toNat : Int) = ((wordOf a b c d).toNat : Int) := by
  have hw := wordOf_toNat ha hb hc hd
  unfold isByte at *
  obtain ⟨A, rfl⟩ := ltU32 (n := a) (by omega) (by omega)
  obtain ⟨B, rfl⟩ := ltU32 (n := b) (by omega) (by omega)
  obtain ⟨C, rfl⟩ := ltU32 (n := c) (by omega) (by omega)
  obtain ⟨D, rfl⟩ := ltU32 (n := d) (by omega) (by omega)
  rw [wrapBv, wrapBv, wrapBv, wrapBv, shlBv, shlBv, shlBv, orV, orV, orV, hw]
  have e1 : (A <<< 24 ||| B <<< 16 ||| C <<< 8 ||| D).toNat = A.toNat * 16777216 + B.toNat * 65536 + C.toNat * 256 + D.toNat := by
    have f1 : (A <<< 24).toNat = A.toNat <<< 24 := by
      rw [BitVec.toNat_shiftLeft, Nat.shiftLeft_eq, Nat.mod_eq_of_lt (by omega)]
    have f2 : (B <<< 16).toNat = B.toNat <<< 16 := by
      rw [BitVec.toNat_shiftLeft, Nat.shiftLeft_eq, Nat.mod_eq_of_lt (by omega)]
    have f3 : (C <<< 8).toNat = C.toNat <<< 8 := by
      rw [BitVec.toNat_shiftLeft, Nat.shiftLeft_eq, Nat.mod_eq_of_lt (by omega)]
    have g1 : A.toNat <<< 24 ||| B.toNat <<< 16 = (A.toNat * 256 + B.toNat) <<< 16 := by
      rw [← Nat.shiftLeft_add_eq_or_of_lt (by rw [Nat.shiftLeft_eq]; omega)]; simp only [Nat.shiftLeft_eq]; omega
    have g2 : (A.toNat * 256 + B.toNat) <<< 16 ||| C.toNat <<< 8 = ((A.toNat * 256 + B.toNat) * 256 + C.toNat) <<< 8 := by
      rw [← Nat.shiftLeft_add_eq_or_of_lt (by rw [Nat.shiftLeft_eq]; omega)]; simp only [Nat.shiftLeft_eq]; omega
    have g3 : ((A.toNat * 256 + B.toNat) * 256 + C.toNat) <<< 8 ||| D.toNat = ((A.toNat * 256 + B.toNat) * 256 + C.toNat) <<< 8 + D.toNat := by
      rw [← Nat.shiftLeft_add_eq_or_of_lt (by omega)]
    rw [BitVec.toNat_or, BitVec.toNat_or, BitVec.toNat_or, f1, f2, f3, g1, g2, g3, Nat.shiftLeft_eq]
    omega
  omega

/-- A slice that lies in the same block as another one, or in none. -/
theorem row_take_spec' (rb : Nat) (s : Sl) (rest : List Value) (e : TypeId) (a b c d : Int) (bs : List Int) {R : Value → Heap → Prop} {h : Heap}
    (hb : Blk h rb ⟨.slice s.a s.n s.c :: rest⟩ e) (hs : Rd 1 h s ((a :: b :: c :: d :: bs).map bv)) (hcap : s.n ≤ s.c) (hne : s.blk ≠ some rb) (hby : isByte a ∧ isByte b ∧ isByte c ∧ isByte d)
    (H : ∀ (s' : Sl) (h' : Heap), Blk h' rb ⟨.slice s'.a s'.n s'.c :: rest⟩ e → Rd 1 h' s' (bs.map bv) → s'.n ≤ s'.c → (∀ b, s'.blk = some b → s.blk = some b) → Frm (· = rb) h h' → h'.size = h.size → R (wv (wordOf a b c d)) h') :
    HC Try.prog F.bits_row_take #[.pointer (some ⟨rb, 0, none⟩)] R h := by
  refine bits_row_take.calls ?_
  unfold bits_row_take.body
  have hl : s.n = bs.length + 4 := by have := hs.len; simpa using this
  have hld : ∀ (K : Sl → Prop), K s → loadK .slice h (some ((⟨rb, 0, none⟩ : Addr).add 0)) K := fun K hK => by
    rw [addr_add]
    exact loadCell hb (k := .slice) s (by simp [Kd.inj]) hK
  have hz : (1 : Nat) = sizeOfT Try.prog T.uint8 := by kernel_rfl
  refine ⟨_, rfl, _, rfl, hld _ ?_⟩
  refine idxLoad hs hz.symm (k := .int .u8) (by omega) a rfl ?_
  refine ⟨by decide, _, rfl, _, rfl, hld _ ?_⟩
  refine idxLoad hs hz.symm (k := .int .u8) (by omega) b rfl ?_
  refine ⟨by decide, _, rfl, _, rfl, hld _ ?_⟩
  refine idxLoad hs hz.symm (k := .int .u8) (by omega) c rfl ?_
  refine ⟨by decide, _, rfl, _, rfl, hld _ ?_⟩
  refine idxLoad hs hz.symm (k := .int .u8) (by omega) d rfl ?_
  refine ⟨_, rfl, _, rfl, hld _ ?_⟩
  refine ⟨4, s.n, s.c, rfl, rfl, ⟨rfl, by omega⟩, ?_⟩
  refine ⟨_, rfl, _, rfl, ?_⟩
  rw [addr_add, Nat.add_zero]
  refine storeCell hb (by simp) rfl ?_
  intro h' hb' hf hsz
  have hd := hs.drop (n := 4) (c := s.c) (sz := sizeOfT Try.prog T.uint8) hz.symm (by simp) hcap
  rw [show Int.toNat 24 = 24 from rfl, show Int.toNat 16 = 16 from rfl, show Int.toNat 8 = 8 from rfl, or4 hby.1 hby.2.1 hby.2.2.1 hby.2.2.2]
  have hne2 : (⟨if s.c = 4 then s.a else s.a.map (·.add (4 * sizeOfT Try.prog T.uint8)), s.n - 4, s.c - 4⟩ : Sl).blk ≠ some rb := by
    rcases hs.2 with h0 | ⟨b0, o0, _, _, _, ha0, _⟩
    · simp at h0
    · have h2 : s.blk = some b0 := by simp [Sl.blk, ha0]
      have h3 : b0 ≠ rb := fun e => hne (by rw [h2, e])
      simp only [Sl.blk, ha0, Option.map_some, addr_add]
      split <;> simp [h3]
  have hsub : ∀ b, (⟨if s.c = 4 then s.a else s.a.map (·.add (4 * sizeOfT Try.prog T.uint8)), s.n - 4, s.c - 4⟩ : Sl).blk = some b → s.blk = some b := by
    intro b hb1
    rcases hs.2 with h0 | ⟨b0, o0, _, _, _, ha0, _⟩
    · simp at h0
    · simp only [Sl.blk, ha0, Option.map_some, addr_add] at hb1 ⊢
      split at hb1 <;> simpa using hb1
  refine H ⟨if s.c = 4 then s.a else s.a.map (·.add (4 * sizeOfT Try.prog T.uint8)), s.n - 4, s.c - 4⟩ h' ?_ ?_ ?_ hsub hf hsz
  · simpa using hb'
  · have h5 := hd.frm hf (fun b hb x => hne2 (by rw [hb, x]))
    simpa using h5
  · show s.n - 4 ≤ s.c - 4
    omega

/-- A word is put behind a row that the call owns. -/
theorem pushWord {s : Sl} {ws : List (BitVec 32)} {w : BitVec 32} {h : Heap} {K : Sl → Heap → Prop} (hs : Own T.uint32 1 h s (ws.map wv)) (hlen : ws.length ≤ 900000000)
    (hK : ∀ (s' : Sl) (h' : Heap), Own T.uint32 1 h' s' ((ws ++ [w]).map wv) → Frm (fun b => s.blk = some b) h h' → (∀ b, s'.blk = some b → s.blk = some b ∨ h.size ≤ b) → K s' h') :
    newSlK h 1 #[wv w] T.uint32 (fun (x : Sl) (h : Heap) => opK Try.prog .slice (Builtin.append_ #[T.sl_uint32, T.sl_uint32] T.sl_uint32 #[.slice s.a s.n s.c, .slice x.a x.n x.c]) K h) := by
  unfold newSlK
  have hp := Ext.push h (.cells #[wv w] T.uint32 (0, 0))
  have hl : s.n = ws.length := by have := hs.rd.len; simpa using this
  refine appendLimbs (hs.frm (S := fun _ => False) hp (fun _ _ x => x)) (Rd.new h _ T.uint32 1 1 rfl) (by simp [Value.oneCell']) (by simp; omega) ?_
  intro s' h' hown _ hf hb _
  refine hK s' h' (by simpa using hown) (hp.frm.trans' hf (fun _ _ x => x)) ?_
  intro b hb1
  rcases hb b hb1 with y | y
  · exact .inl y
  · exact .inr (by simp at y; omega)

end Go.Proofs.Ytijipdaofojbiaa

/-!
  Rows of words and of bytes, continued: bits.Words, the document's Bytes.
-/
namespace Go.Proofs.Ytijipdaofojbiaa
open Go Go.Ev

theorem build_row (s : Sl) (w : World) : (Instr.build T.bits_row #[(0, (.slice s.a s.n s.c))]).run Try.prog w = .ok (.agg #[.slice s.a s.n s.c]) w := by kernel_rfl
theorem build_reader (s : Sl) (w : World) : (Instr.build T.bits_reader #[(0, (.agg #[.slice s.a s.n s.c]))]).run Try.prog w = .ok (.agg #[.slice s.a s.n s.c, .slice none 0 0]) w := by kernel_rfl

theorem Words_spec (s : Sl) (bs : List Int) {R : Value → Heap → Prop} {h : Heap} (hr : Rd 1 h s (bs.map bv)) (hb : ∀ x ∈ bs, isByte x) (hl : bs.length ≤ 100000000)
    (H : ∀ (s' : Sl) (h' : Heap) (e : Int), (if bs.length % 4 = 0 then e = 0 ∧ Own T.uint32 1 h' s' ((wordsOf bs).map wv) else e = 4 ∧ Own T.uint32 1 h' s' []) → Ext h h' → (∀ b, s'.blk = some b → h.size ≤ b) → R (.tuple #[.slice s'.a s'.n s'.c, .int .i64 e]) h') :
    HC Try.prog F.bits_Words #[.slice s.a s.n s.c] R h := by
  refine bits_Words.calls (b0 := s) ?_
  unfold bits_Words.body
  have hn : s.n = bs.length := by have := hr.len; simpa using this
  refine ⟨by decide, ?_⟩
  have hm : Int.tmod (s.n : Int) 4 = ((bs.length % 4 : Nat) : Int) := by rw [Int.tmod_eq_emod_of_nonneg (by omega)]; omega
  rw [hm]
  by_cases h4 : bs.length % 4 = 0
  · rw [if_neg (by simp [h4])]
    refine Clone_spec s _ hr (oneBv bs) (by simp; omega) ?_
    intro s1 h1 hown1 hext1 hblk1
    refine ⟨s1, rfl, ?_⟩
    refine ⟨_, build_row s1, _, build_reader s1, ?_⟩
    unfold newK
    rw [zeros_reader]
    have hs1 := hown1.rd
    have hs1c := hown1.2.1
    have hs1b : ∀ b, s1.blk = some b → b < h1.size := fun b hb => hown1.blk_lt hb
    clear hown1
    obtain ⟨rb, hrb⟩ : ∃ rb, rb = h1.size := ⟨_, rfl⟩
    have hB : Blk (h1.push (.cells #[.slice none 0 0, .slice none 0 0] T.bits_reader (0, 0))) rb #[.slice none 0 0, .slice none 0 0] T.bits_reader := by rw [hrb]; exact push_last _ _
    rw [← hrb]
    refine ⟨rb, 0, _, T.bits_reader, rfl, hB, by kernel_rfl, by rw [show sizeOfT Try.prog T.bits_reader = 2 from by kernel_rfl]; decide, by simp [Value.oneCell'], ?_⟩
    have hP := Ext.push h1 (.cells #[.slice none 0 0, .slice none 0 0] T.bits_reader (0, 0))
    have hB2 := setBlk_self (c' := overA #[.slice none 0 0, .slice none 0 0] 0 [.slice s1.a s1.n s1.c, .slice none 0 0]) hB
    have hF2 := Frm.setBlk (h1.push (.cells #[.slice none 0 0, .slice none 0 0] T.bits_reader (0, 0))) rb (overA #[.slice none 0 0, .slice none 0 0] 0 [.slice s1.a s1.n s1.c, .slice none 0 0]) T.bits_reader
    have hS2 := setBlk_size (h1.push (.cells #[.slice none 0 0, .slice none 0 0] T.bits_reader (0, 0))) rb (overA #[.slice none 0 0, .slice none 0 0] 0 [.slice s1.a s1.n s1.c, .slice none 0 0]) T.bits_reader
    generalize hh2 : setBlk (h1.push (.cells #[.slice none 0 0, .slice none 0 0] T.bits_reader (0, 0))) rb (overA #[.slice none 0 0, .slice none 0 0] 0 [.slice s1.a s1.n s1.c, .slice none 0 0]) T.bits_reader = h2 at hB2 hF2 hS2
    have hB3 : Blk h2 rb ⟨.slice s1.a s1.n s1.c :: [.slice none 0 0]⟩ T.bits_reader := hB2
    have hX12 : Ext h1 h2 := hP.trans' hF2 (fun i hi e => by omega)
    have hsz2 : h2.size = rb + 1 := by rw [hS2, hrb]; simp
    show divK 4 _
    refine ⟨by decide, ?_⟩
    have hwl := wordsOf_length bs
    have hdv : IntKind.i64.wrap (Int.tdiv (s.n : Int) 4) = ((bs.length / 4 : Nat) : Int) := by
      rw [Int.tdiv_eq_ediv_of_nonneg (by omega), hn, wrapI64 (by omega) (by omega)]; omega
    rw [hdv]
    refine loopW_rule (fun st h' => ∃ (i : Nat) (src words : Sl), i ≤ bs.length / 4 ∧ st = (i : Int) ∧ Blk h' rb ⟨.slice src.a src.n src.c :: [.slice words.a words.n words.c]⟩ T.bits_reader ∧ Rd 1 h' src ((bs.drop (4 * i)).map bv) ∧ src.n ≤ src.c ∧
        (∀ b, src.blk = some b → b < rb) ∧ Own T.uint32 1 h' words (((wordsOf bs).take i).map wv) ∧ (∀ b, words.blk = some b → rb < b) ∧ Ext h h' ∧ rb < h'.size) (fun st => bs.length / 4 - st.toNat)
      ⟨0, s1, ⟨none, 0, 0⟩, by omega, rfl, hB3, by simpa using hs1.ext hX12, hs1c, fun b hb => by rw [hrb]; exact hs1b b hb, Own.nil _ _ _, by simp [Sl.blk], hext1.trans hX12, by omega⟩ ?_
    rintro X _ h3 ⟨i, src, words, hi, rfl, hblk, hsrc, hsc, hsb, hown, hwb, hext, hrb3⟩ hX
    by_cases hlt : i < bs.length / 4
    · have h3' : 4 * i + 3 < bs.length := by omega
      rw [if_pos (by simp; omega)]
      refine ⟨_, rfl, _, rfl, ?_⟩
      simp only [addr_add, Nat.zero_add]
      have hd4 : bs.drop (4 * i) = bs[4 * i] :: bs[4 * i + 1] :: bs[4 * i + 2] :: bs[4 * i + 3] :: bs.drop (4 * (i + 1)) := by
        rw [List.drop_eq_getElem_cons (by omega), List.drop_eq_getElem_cons (i := 4 * i + 1) (by omega), List.drop_eq_getElem_cons (i := 4 * i + 2) (by omega), List.drop_eq_getElem_cons (i := 4 * i + 3) (by omega)]
        rfl
      rw [hd4] at hsrc
      have hby : isByte bs[4 * i] ∧ isByte bs[4 * i + 1] ∧ isByte bs[4 * i + 2] ∧ isByte bs[4 * i + 3] := ⟨hb _ (List.getElem_mem _), hb _ (List.getElem_mem _), hb _ (List.getElem_mem _), hb _ (List.getElem_mem _)⟩
      have hne : src.blk ≠ some rb := fun e => by have := hsb rb e; omega
      have hload : ∀ (h' : Heap) (src' : Sl) (K : Sl → Prop), Blk h' rb ⟨.slice src'.a src'.n src'.c :: [.slice words.a words.n words.c]⟩ T.bits_reader → K words → loadK .slice h' (some ⟨rb, 1, none⟩) K := fun h' src' K hB hK => loadCell hB (k := .slice) words (by simp [Kd.inj]) hK
      have fin : ∀ (src' : Sl) (h4 : Heap), Blk h4 rb ⟨.slice src'.a src'.n src'.c :: [.slice words.a words.n words.c]⟩ T.bits_reader → Rd 1 h4 src' ((bs.drop (4 * (i + 1))).map bv) → src'.n ≤ src'.c → (∀ b, src'.blk = some b → b < rb) → Frm (· = rb) h3 h4 → h4.size = h3.size →
          newSlK h4 1 #[wv (wordOf bs[4 * i] bs[4 * i + 1] bs[4 * i + 2] bs[4 * i + 3])] T.uint32 (fun (v_11 : Sl) (h : Heap) => opK Try.prog .slice (Builtin.append_ #[T.sl_uint32, T.sl_uint32] T.sl_uint32 #[(.slice words.a words.n words.c), (.slice v_11.a v_11.n v_11.c)]) (fun (v_12 : Sl) (h : Heap) =>
            fldK (some ⟨rb, 0, none⟩) 1 (fun (a_13 : Addr) => storeK h ((some a_13)) (.slice v_12.a v_12.n v_12.c) (fun (h : Heap) => X (IntKind.i64.wrap ((i : Int) + 1)) h))) h) := by
        intro src' h4 hB4 hR4 hC4 hS4 hF4 hZ4
        have hown4 := hown.frm hF4 (fun b hb e => by have := hwb b hb; omega)
        refine pushWord hown4 (by simp; omega) ?_
        intro w2 h5 hown5 hf5 hblk5
        have hB5 : Blk h5 rb ⟨.slice src'.a src'.n src'.c :: [.slice words.a words.n words.c]⟩ T.bits_reader := hf5.get hB4 (fun e => by have := hwb rb e; omega)
        have hR5 := hR4.frm hf5 (fun b hb e => by have h1 := hS4 b hb; have h2 := hwb b e; omega)
        have hw2 : ∀ b, w2.blk = some b → rb < b := fun b hb => by
          rcases hblk5 b hb with y | y
          · exact hwb b y
          · omega
        refine ⟨_, rfl, ?_⟩
        simp only [addr_add, Nat.zero_add]
        refine storeCell hB5 (by simp) rfl ?_
        intro h6 hB6 hf6 hz6
        rw [wrapSucc (by omega)]
        refine hX _ _ ⟨i + 1, src', w2, by omega, rfl, by simpa using hB6, hR5.frm hf6 (fun b hb e => by have := hS4 b hb; omega), hC4, hS4, ?_, hw2, ?_, ?_⟩ (by simp; omega)
        · rw [wordsOf_take bs i h3']
          exact hown5.frm hf6 (fun b hb e => by have := hw2 b hb; omega)
        · have e1 : Ext h h4 := hext.trans' hF4 (fun j hj e => by have := hext1.1; omega)
          have e2 : Ext h h5 := e1.trans' hf5 (fun j hj e => by have h1 := hwb j e; have := hext1.1; omega)
          exact e2.trans' hf6 (fun j hj e => by have := hext1.1; omega)
        · have := hf5.1
          omega
      have hsrcb : ∀ src' : Sl, src'.blk ≠ some rb → True := fun _ _ => trivial
      refine hload h3 src _ hblk ?_
      refine row_take_spec' rb src _ _ _ _ _ _ _ hblk hsrc hsc hne hby ?_
      intro src' h4 hB4 hR4 hC4 hN4 hF4 hZ4
      exact ⟨_, rfl, hload h4 src' (fun x => (Kd.slice).inj x = (Kd.slice).inj words) hB4 rfl, fin src' h4 hB4 hR4 hC4 (fun b hb => hsb b (hN4 b hb)) hF4 hZ4⟩
    · rw [if_neg (by simp; omega)]
      have hi2 : i = bs.length / 4 := by omega
      refine ⟨_, rfl, ?_⟩
      simp only [addr_add, Nat.zero_add]
      refine loadCell hblk (k := .slice) words (by simp [Kd.inj]) ?_
      refine H words h3 0 ?_ hext (fun b hb => by have h1 := hwb b hb; have := hext1.1; omega)
      rw [if_pos h4]
      refine ⟨rfl, ?_⟩
      rw [List.take_of_length_le (by omega)] at hown
      exact hown
  · rw [if_pos (by simp; omega)]
    refine H ⟨none, 0, 0⟩ h 4 ?_ (Frm.refl _ _) (by simp [Sl.blk])
    rw [if_neg h4]
    exact ⟨rfl, Own.nil _ _ _⟩

end Go.Proofs.Ytijipdaofojbiaa
