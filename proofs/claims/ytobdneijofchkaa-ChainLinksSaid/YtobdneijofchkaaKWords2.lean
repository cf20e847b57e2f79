/-
  Rows of words and of bytes, continued: bits.Words, the document's Bytes.
-/
import Derived.Test.YtobdneijofchkaaKWords
set_option linter.unusedSimpArgs false
set_option linter.unusedVariables false
namespace Go.Proofs.Ytobdneijofchkaa
open Go Go.Ev

theorem build_row (s : Sl) (w : World) : (Instr.build T.bits_row #[(0, (.slice s.a s.n s.c))]).run Try.prog w = .ok (.agg #[.slice s.a s.n s.c]) w := by kernel_rfl
theorem build_reader (s : Sl) (w : World) : (Instr.build T.bits_reader #[(0, (.agg #[.slice s.a s.n s.c]))]).run Try.prog w = .ok (.agg #[.slice s.a s.n s.c, .slice none 0 0]) w := by kernel_rfl

theorem Words_spec (s : Sl) (bs : List Int) {R : Value → Heap → Prop} {h : Heap} (hr : Rd 1 h s (bs.map bv)) (hb : ∀ x ∈ bs, isByte x) (hl : bs.length ≤ 100000000)
    (H : ∀ (s' : Sl) (h' : Heap) (e : Int), (if bs.length % 4 = 0 then e = 0 ∧ Own T.uint32 1 h' s' ((wordsOf bs).map wv) else e = 4 ∧ Own T.uint32 1 h' s' []) → Ext h h' → (∀ b, s'.blk = some b → h.size ≤ b) → R (.tuple #[.slice s'.a s'.n s'.c, .int .i64 e]) h') :
    HC Try.prog F.bits_Words #[.slice s.a s.n s.c] R h := by
  refine bits_Words.calls (b0 := s) ?_
  unfold bits_Words.body
  have hn : s.n = bs.length := by have := hr.len; simpa using this
  refine ⟨by decide, ?_⟩
  have hm : Int.tmod (s.n : Int) 4 = ((bs.length % 4 : Nat) : Int) := by rw [Int.tmod_eq_emod_of_nonneg (by omega)]; omega
  rw [hm]
  by_cases h4 : bs.length % 4 = 0
  · rw [if_neg (by simp [h4])]
    refine Clone_spec s _ hr (oneBv bs) (by simp; omega) ?_
    intro s1 h1 hown1 hext1 hblk1
    refine ⟨s1, rfl, ?_⟩
    refine ⟨_, build_row s1, _, build_reader s1, ?_⟩
    unfold newK
    rw [zeros_reader]
    have hs1 := hown1.rd
    have hs1c := hown1.2.1
    have hs1b : ∀ b, s1.blk = some b → b < h1.size := fun b hb => hown1.blk_lt hb
    clear hown1
    obtain ⟨rb, hrb⟩ : ∃ rb, rb = h1.size := ⟨_, rfl⟩
    have hB : Blk (h1.push (.cells #[.slice none 0 0, .slice none 0 0] T.bits_reader (0, 0))) rb #[.slice none 0 0, .slice none 0 0] T.bits_reader := by rw [hrb]; exact push_last _ _
    rw [← hrb]
    refine ⟨rb, 0, _, T.bits_reader, rfl, hB, by kernel_rfl, by rw [show sizeOfT Try.prog T.bits_reader = 2 from by kernel_rfl]; decide, by simp [Value.oneCell'], ?_⟩
    have hP := Ext.push h1 (.cells #[.slice none 0 0, .slice none 0 0] T.bits_reader (0, 0))
    have hB2 := setBlk_self (c' := overA #[.slice none 0 0, .slice none 0 0] 0 [.slice s1.a s1.n s1.c, .slice none 0 0]) hB
    have hF2 := Frm.setBlk (h1.push (.cells #[.slice none 0 0, .slice none 0 0] T.bits_reader (0, 0))) rb (overA #[.slice none 0 0, .slice none 0 0] 0 [.slice s1.a s1.n s1.c, .slice none 0 0]) T.bits_reader
    have hS2 := setBlk_size (h1.push (.cells #[.slice none 0 0, .slice none 0 0] T.bits_reader (0, 0))) rb (overA #[.slice none 0 0, .slice none 0 0] 0 [.slice s1.a s1.n s1.c, .slice none 0 0]) T.bits_reader
    generalize hh2 : setBlk (h1.push (.cells #[.slice none 0 0, .slice none 0 0] T.bits_reader (0, 0))) rb (overA #[.slice none 0 0, .slice none 0 0] 0 [.slice s1.a s1.n s1.c, .slice none 0 0]) T.bits_reader = h2 at hB2 hF2 hS2
    have hB3 : Blk h2 rb ⟨.slice s1.a s1.n s1.c :: [.slice none 0 0]⟩ T.bits_reader := hB2
    have hX12 : Ext h1 h2 := hP.trans' hF2 (fun i hi e => by omega)
    have hsz2 : h2.size = rb + 1 := by rw [hS2, hrb]; simp
    show divK 4 _
    refine ⟨by decide, ?_⟩
    have hwl := wordsOf_length bs
    have hdv : IntKind.i64.wrap (Int.tdiv (s.n : Int) 4) = ((bs.length / 4 : Nat) : Int) := by
      rw [Int.tdiv_eq_ediv_of_nonneg (by omega), hn, wrapI64 (by omega) (by omega)]; omega
    rw [hdv]
    refine loopW_rule (fun st h' => ∃ (i : Nat) (src words : Sl), i ≤ bs.length / 4 ∧ st = (i : Int) ∧ Blk h' rb ⟨.slice src.a src.n src.c :: [.slice words.a words.n words.c]⟩ T.bits_reader ∧ Rd 1 h' src ((bs.drop (4 * i)).map bv) ∧ src.n ≤ src.c ∧
        (∀ b, src.blk = some b → b < rb) ∧ Own T.uint32 1 h' words (((wordsOf bs).take i).map wv) ∧ (∀ b, words.blk = some b → rb < b) ∧ Ext h h' ∧ rb < h'.size) (fun st => bs.length / 4 - st.toNat)
      ⟨0, s1, ⟨none, 0, 0⟩, by omega, rfl, hB3, by simpa using hs1.ext hX12, hs1c, fun b hb => by rw [hrb]; exact hs1b b hb, Own.nil _ _ _, by simp [Sl.blk], hext1.trans hX12, by omega⟩ ?_
    rintro X _ h3 ⟨i, src, words, hi, rfl, hblk, hsrc, hsc, hsb, hown, hwb, hext, hrb3⟩ hX
    by_cases hlt : i < bs.length / 4
    · have h3' : 4 * i + 3 < bs.length := by omega
      rw [if_pos (by simp; omega)]
      refine ⟨_, rfl, _, rfl, ?_⟩
      simp only [addr_add, Nat.zero_add]
      have hd4 : bs.drop (4 * i) = bs[4 * i] :: bs[4 * i + 1] :: bs[4 * i + 2] :: bs[4 * i + 3] :: bs.drop (4 * (i + 1)) := by
        rw [List.drop_eq_getElem_cons (by omega), List.drop_eq_getElem_cons (i := 4 * i + 1) (by omega), List.drop_eq_getElem_cons (i := 4 * i + 2) (by omega), List.drop_eq_getElem_cons (i := 4 * i + 3) (by omega)]
        rfl
      rw [hd4] at hsrc
      have hby : isByte bs[4 * i] ∧ isByte bs[4 * i + 1] ∧ isByte bs[4 * i + 2] ∧ isByte bs[4 * i + 3] := ⟨hb _ (List.getElem_mem _), hb _ (List.getElem_mem _), hb _ (List.getElem_mem _), hb _ (List.getElem_mem _)⟩
      have hne : src.blk ≠ some rb := fun e => by have := hsb rb e; omega
      have hload : ∀ (h' : Heap) (src' : Sl) (K : Sl → Prop), Blk h' rb ⟨.slice src'.a src'.n src'.c :: [.slice words.a words.n words.c]⟩ T.bits_reader → K words → loadK .slice h' (some ⟨rb, 1, none⟩) K := fun h' src' K hB hK => loadCell hB (k := .slice) words (by simp [Kd.inj]) hK
      have fin : ∀ (src' : Sl) (h4 : Heap), Blk h4 rb ⟨.slice src'.a src'.n src'.c :: [.slice words.a words.n words.c]⟩ T.bits_reader → Rd 1 h4 src' ((bs.drop (4 * (i + 1))).map bv) → src'.n ≤ src'.c → (∀ b, src'.blk = some b → b < rb) → Frm (· = rb) h3 h4 → h4.size = h3.size →
          newSlK h4 1 #[wv (wordOf bs[4 * i] bs[4 * i + 1] bs[4 * i + 2] bs[4 * i + 3])] T.uint32 (fun (v_11 : Sl) (h : Heap) => opK Try.prog .slice (Builtin.append_ #[T.sl_uint32, T.sl_uint32] T.sl_uint32 #[(.slice words.a words.n words.c), (.slice v_11.a v_11.n v_11.c)]) (fun (v_12 : Sl) (h : Heap) =>
            fldK (some ⟨rb, 0, none⟩) 1 (fun (a_13 : Addr) => storeK h ((some a_13)) (.slice v_12.a v_12.n v_12.c) (fun (h : Heap) => X (IntKind.i64.wrap ((i : Int) + 1)) h))) h) := by
        intro src' h4 hB4 hR4 hC4 hS4 hF4 hZ4
        have hown4 := hown.frm hF4 (fun b hb e => by have := hwb b hb; omega)
        refine pushWord hown4 (by simp; omega) ?_
        intro w2 h5 hown5 hf5 hblk5
        have hB5 : Blk h5 rb ⟨.slice src'.a src'.n src'.c :: [.slice words.a words.n words.c]⟩ T.bits_reader := hf5.get hB4 (fun e => by have := hwb rb e; omega)
        have hR5 := hR4.frm hf5 (fun b hb e => by have h1 := hS4 b hb; have h2 := hwb b e; omega)
        have hw2 : ∀ b, w2.blk = some b → rb < b := fun b hb => by
          rcases hblk5 b hb with y | y
          · exact hwb b y
          · omega
        refine ⟨_, rfl, ?_⟩
        simp only [addr_add, Nat.zero_add]
        refine storeCell hB5 (by simp) rfl ?_
        intro h6 hB6 hf6 hz6
        rw [wrapSucc (by omega)]
        refine hX _ _ ⟨i + 1, src', w2, by omega, rfl, by simpa using hB6, hR5.frm hf6 (fun b hb e => by have := hS4 b hb; omega), hC4, hS4, ?_, hw2, ?_, ?_⟩ (by simp; omega)
        · rw [wordsOf_take bs i h3']
          exact hown5.frm hf6 (fun b hb e => by have := hw2 b hb; omega)
        · have e1 : Ext h h4 := hext.trans' hF4 (fun j hj e => by have := hext1.1; omega)
          have e2 : Ext h h5 := e1.trans' hf5 (fun j hj e => by have h1 := hwb j e; have := hext1.1; omega)
          exact e2.trans' hf6 (fun j hj e => by have := hext1.1; omega)
        · have := hf5.1
          omega
      have hsrcb : ∀ src' : Sl, src'.blk ≠ some rb → True := fun _ _ => trivial
      refine hload h3 src _ hblk ?_
      refine row_take_spec' rb src _ _ _ _ _ _ _ hblk hsrc hsc hne hby ?_
      intro src' h4 hB4 hR4 hC4 hN4 hF4 hZ4
      exact ⟨_, rfl, hload h4 src' (fun x => (Kd.slice).inj x = (Kd.slice).inj words) hB4 rfl, fin src' h4 hB4 hR4 hC4 (fun b hb => hsb b (hN4 b hb)) hF4 hZ4⟩
    · rw [if_neg (by simp; omega)]
      have hi2 : i = bs.length / 4 := by omega
      refine ⟨_, rfl, ?_⟩
      simp only [addr_add, Nat.zero_add]
      refine loadCell hblk (k := .slice) words (by simp [Kd.inj]) ?_
      refine H words h3 0 ?_ hext (fun b hb => by have h1 := hwb b hb; have := hext1.1; omega)
      rw [if_pos h4]
      refine ⟨rfl, ?_⟩
      rw [List.take_of_length_le (by omega)] at hown
      exact hown
  · rw [if_pos (by simp; omega)]
    refine H ⟨none, 0, 0⟩ h 4 ?_ (Frm.refl _ _) (by simp [Sl.blk])
    rw [if_neg h4]
    exact ⟨rfl, Own.nil _ _ _⟩

theorem refByteV (w : BitVec 32) (j : Nat) (hj : j < 4) : IntKind.u8.wrap (Int.tmod (Int.fdiv (w.toNat : Int) (2 ^ min (Int.toNat (8 * (3 - (j : Int)))) (IntKind.bits .u32))) 256) = (be4 w)[j]'(by simp [be4]; omega) := by
  rw [shrBv, Int.tmod_eq_emod_of_nonneg (by omega), wrapU8_mod, BitVec.toNat_ushiftRight, Nat.shiftRight_eq_div_pow]
  have : j = 0 ∨ j = 1 ∨ j = 2 ∨ j = 3 := by omega
  rcases this with rfl | rfl | rfl | rfl <;> simp [be4] <;> omega

theorem ofWords {zs : List Int} (h : ∀ n ∈ zs, IntKind.u32.min ≤ n ∧ n ≤ IntKind.u32.max) : ∃ ws : List (BitVec 32), zs.map (Value.int .u32) = ws.map wv ∧ ws.length = zs.length := by
  induction zs with
  | nil => exact ⟨[], rfl, rfl⟩
  | cons z zs ih =>
    obtain ⟨ws, h1, h2⟩ := ih fun n hn => h n (List.mem_cons_of_mem _ hn)
    have hz := h z List.mem_cons_self
    have hmin : IntKind.u32.min = 0 := rfl
    have hmax : IntKind.u32.max = 4294967295 := rfl
    obtain ⟨w, rfl⟩ := ltU32 (n := z) (by omega) (by omega)
    exact ⟨w :: ws, by simp [h1], by simp [h2]⟩

theorem ofBytes {zs : List Int} (h : ∀ n ∈ zs, IntKind.u8.min ≤ n ∧ n ≤ IntKind.u8.max) : ∀ x ∈ zs, isByte x := fun x hx => by
  have hz := h x hx
  have hmin : IntKind.u8.min = 0 := rfl
  have hmax : IntKind.u8.max = 255 := rfl
  unfold isByte
  omega

end Go.Proofs.Ytobdneijofchkaa
