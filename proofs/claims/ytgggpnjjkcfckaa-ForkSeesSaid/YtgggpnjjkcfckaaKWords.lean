/-
  Rows of words and of bytes, forth and back: the functions of the package bits, and of the document's own.
-/
import Derived.Test.YtgggpnjjkcfckaaKRef01
import Derived.Test.YtgggpnjjkcfckaaRow
import Derived.Test.YtgggpnjjkcfckaaKTag
set_option linter.unusedSimpArgs false
set_option linter.unusedVariables false
namespace Go.Proofs.Ytgggpnjjkcfckaa
open Go Go.Ev


/-- Four bytes as a word, the highest first. -/
def wordOf (a b c d : Int) : BitVec 32 := BitVec.ofInt 32 (a * 16777216 + b * 65536 + c * 256 + d)

/-- The words of a row of bytes whose length is four times theirs. -/
def wordsOf : List Int → List (BitVec 32)
  | a :: b :: c :: d :: r => wordOf a b c d :: wordsOf r
  | _ => []

theorem wordOf_toNat {a b c d : Int} (ha : isByte a) (hb : isByte b) (hc : isByte c) (hd : isByte d) : ((wordOf a b c d).toNat : Int) = a * 16777216 + b * 65536 + c * 256 + d := by
  unfold wordOf isByte at *
  rw [BitVec.toNat_ofInt]
  simp only [Nat.reducePow]
  omega

theorem be4_wordOf {a b c d : Int} (ha : isByte a) (hb : isByte b) (hc : isByte c) (hd : isByte d) : be4 (wordOf a b c d) = [a, b, c, d] := by
  have h := wordOf_toNat ha hb hc hd
  unfold isByte at *
  unfold be4
  simp only [List.cons.injEq, and_true]
  refine ⟨?_, ?_, ?_, ?_⟩ <;> omega

theorem be4_byte (w : BitVec 32) : ∀ x ∈ be4 w, isByte x := by
  intro x hx
  simp only [be4, List.mem_cons, List.mem_nil_iff, or_false] at hx
  unfold isByte
  rcases hx with rfl | rfl | rfl | rfl <;> omega

theorem wordOf_be4 (w : BitVec 32) : wordOf ((w.toNat / 16777216 % 256 : Nat) : Int) ((w.toNat / 65536 % 256 : Nat) : Int) ((w.toNat / 256 % 256 : Nat) : Int) ((w.toNat % 256 : Nat) : Int) = w := by
  apply BitVec.eq_of_toNat_eq
  have h := wordOf_toNat (a := ((w.toNat / 16777216 % 256 : Nat) : Int)) (b := ((w.toNat / 65536 % 256 : Nat) : Int)) (c := ((w.toNat / 256 % 256 : Nat) : Int)) (d := ((w.toNat % 256 : Nat) : Int))
    (by unfold isByte; omega) (by unfold isByte; omega) (by unfold isByte; omega) (by unfold isByte; omega)
  have := w.isLt
  omega

theorem wordsOf_be4 : ∀ (ws : List (BitVec 32)), wordsOf (ws.flatMap be4) = ws
  | [] => rfl
  | w :: ws => by
    rw [List.flatMap_cons, be4, List.cons_append, List.cons_append, List.cons_append, List.cons_append, List.nil_append, wordsOf, wordOf_be4, wordsOf_be4 ws]

theorem flatMap_wordsOf : ∀ (bs : List Int), bs.length % 4 = 0 → (∀ x ∈ bs, isByte x) → (wordsOf bs).flatMap be4 = bs
  | [], _, _ => rfl
  | [_], h, _ => by simp at h
  | [_, _], h, _ => by simp at h
  | [_, _, _], h, _ => by simp at h
  | a :: b :: c :: d :: r, h, hb => by
    rw [wordsOf, List.flatMap_cons, be4_wordOf (hb a (by simp)) (hb b (by simp)) (hb c (by simp)) (hb d (by simp)), flatMap_wordsOf r (by simp at h; omega) (fun x hx => hb x (by simp [hx]))]
    rfl

theorem wordsOf_length : ∀ (bs : List Int), (wordsOf bs).length = bs.length / 4
  | [] => rfl
  | [_] => by simp [wordsOf]
  | [_, _] => by simp [wordsOf]
  | [_, _, _] => by simp [wordsOf]
  | a :: b :: c :: d :: r => by
    rw [wordsOf, List.length_cons, wordsOf_length r]; simp only [List.length_cons]; omega

theorem wordsOf_get : ∀ (bs : List Int) (i : Nat) (h : 4 * i + 3 < bs.length), (wordsOf bs)[i]? = some (wordOf bs[4 * i] bs[4 * i + 1] bs[4 * i + 2] bs[4 * i + 3])
  | [], i, h => by simp at h
  | [_], i, h => by simp only [List.length_cons, List.length_nil] at h; omega
  | [_, _], i, h => by simp only [List.length_cons, List.length_nil] at h; omega
  | [_, _, _], i, h => by simp only [List.length_cons, List.length_nil] at h; omega
  | a :: b :: c :: d :: r, 0, h => rfl
  | a :: b :: c :: d :: r, i + 1, h => by
    have := wordsOf_get r i (by simp at h; omega)
    rw [wordsOf, List.getElem?_cons_succ, this]
    rfl

theorem wordsOf_take (bs : List Int) (i : Nat) (h : 4 * i + 3 < bs.length) : (wordsOf bs).take (i + 1) = (wordsOf bs).take i ++ [wordOf bs[4 * i] bs[4 * i + 1] bs[4 * i + 2] bs[4 * i + 3]] := by
  have h1 := wordsOf_get bs i h
  obtain ⟨h2, h3⟩ := List.getElem?_eq_some_iff.1 h1
  rw [List.take_succ_eq_append_getElem h2, h3]


/-! ### Functions -/

theorem oneBv (xs : List Int) : ∀ v ∈ xs.map bv, v.oneCell' = true := by intro v hv; simp at hv; obtain ⟨_, _, rfl⟩ := hv; rfl
theorem oneWv (xs : List (BitVec 32)) : ∀ v ∈ xs.map wv, v.oneCell' = true := by intro v hv; simp at hv; obtain ⟨_, _, rfl⟩ := hv; rfl

theorem or4 {a b c d : Int} (ha : isByte a) (hb : isByte b) (hc : isByte c) (hd : isByte d) :
    IntKind.u32.wrap ((BitVec.ofInt (IntKind.bits .u32) (IntKind.u32.wrap ((BitVec.ofInt (IntKind.bits .u32) (IntKind.u32.wrap ((BitVec.ofInt (IntKind.bits .u32) (IntKind.u32.wrap ((IntKind.u32.wrap a) * 2 ^ min 24 (IntKind.bits .u32))) |||
      BitVec.ofInt (IntKind.bits .u32) (IntKind.u32.wrap ((IntKind.u32.wrap b) * 2 ^ min 16 (IntKind.bits .u32)))).toNat : Int)) ||| BitVec.ofInt (IntKind.bits .u32) (IntKind.u32.wrap ((IntKind.u32.wrap c) * 2 ^ min 8 (IntKind.bits .u32)))).toNat : Int)) |||
      BitVec.ofInt (IntKind.bits .u32) (IntKind.u32.wrap d)).toNat : Int) = ((wordOf a b c d).toNat : Int) := by
  have hw := wordOf_toNat ha hb hc hd
  unfold isByte at *
  obtain ⟨A, rfl⟩ := ltU32 (n := a) (by omega) (by omega)
  obtain ⟨B, rfl⟩ := ltU32 (n := b) (by omega) (by omega)
  obtain ⟨C, rfl⟩ := ltU32 (n := c) (by omega) (by omega)
  obtain ⟨D, rfl⟩ := ltU32 (n := d) (by omega) (by omega)
  rw [wrapBv, wrapBv, wrapBv, wrapBv, shlBv, shlBv, shlBv, orV, orV, orV, hw]
  have e1 : (A <<< 24 ||| B <<< 16 ||| C <<< 8 ||| D).toNat = A.toNat * 16777216 + B.toNat * 65536 + C.toNat * 256 + D.toNat := by
    have f1 : (A <<< 24).toNat = A.toNat <<< 24 := by
      rw [BitVec.toNat_shiftLeft, Nat.shiftLeft_eq, Nat.mod_eq_of_lt (by omega)]
    have f2 : (B <<< 16).toNat = B.toNat <<< 16 := by
      rw [BitVec.toNat_shiftLeft, Nat.shiftLeft_eq, Nat.mod_eq_of_lt (by omega)]
    have f3 : (C <<< 8).toNat = C.toNat <<< 8 := by
      rw [BitVec.toNat_shiftLeft, Nat.shiftLeft_eq, Nat.mod_eq_of_lt (by omega)]
    have g1 : A.toNat <<< 24 ||| B.toNat <<< 16 = (A.toNat * 256 + B.toNat) <<< 16 := by
      rw [← Nat.shiftLeft_add_eq_or_of_lt (by rw [Nat.shiftLeft_eq]; omega)]; simp only [Nat.shiftLeft_eq]; omega
    have g2 : (A.toNat * 256 + B.toNat) <<< 16 ||| C.toNat <<< 8 = ((A.toNat * 256 + B.toNat) * 256 + C.toNat) <<< 8 := by
      rw [← Nat.shiftLeft_add_eq_or_of_lt (by rw [Nat.shiftLeft_eq]; omega)]; simp only [Nat.shiftLeft_eq]; omega
    have g3 : ((A.toNat * 256 + B.toNat) * 256 + C.toNat) <<< 8 ||| D.toNat = ((A.toNat * 256 + B.toNat) * 256 + C.toNat) <<< 8 + D.toNat := by
      rw [← Nat.shiftLeft_add_eq_or_of_lt (by omega)]
    rw [BitVec.toNat_or, BitVec.toNat_or, BitVec.toNat_or, f1, f2, f3, g1, g2, g3, Nat.shiftLeft_eq]
    omega
  omega

theorem appendWords {s x : Sl} {vs ws : List Value} {h : Heap} (hs : Own T.uint32 1 h s vs) (hx : Rd 1 h x ws) (hone : ∀ v ∈ ws, v.oneCell' = true) (hlen : s.n + x.n ≤ 1000000000) {K : Sl → Heap → Prop}
    (hK : ∀ (s' : Sl) (h' : Heap), Own T.uint32 1 h' s' (vs ++ ws) → s'.n = s.n + x.n → Frm (fun b => s.blk = some b) h h' → (∀ b, s'.blk = some b → s.blk = some b ∨ h.size ≤ b) → (s'.a = none → s.n + x.n = 0) → K s' h') :
    opK Try.prog .slice (Builtin.append_ #[T.sl_uint32, T.sl_uint32] T.sl_uint32 #[.slice s.a s.n s.c, .slice x.a x.n x.c]) K h := appendLimbs hs hx hone hlen hK

/-- A word is put behind a row that the call owns. -/
theorem pushWord {s : Sl} {ws : List (BitVec 32)} {w : BitVec 32} {h : Heap} {K : Sl → Heap → Prop} (hs : Own T.uint32 1 h s (ws.map wv)) (hlen : ws.length ≤ 900000000)
    (hK : ∀ (s' : Sl) (h' : Heap), Own T.uint32 1 h' s' ((ws ++ [w]).map wv) → Frm (fun b => s.blk = some b) h h' → (∀ b, s'.blk = some b → s.blk = some b ∨ h.size ≤ b) → K s' h') :
    newSlK h 1 #[wv w] T.uint32 (fun (x : Sl) (h : Heap) => opK Try.prog .slice (Builtin.append_ #[T.sl_uint32, T.sl_uint32] T.sl_uint32 #[.slice s.a s.n s.c, .slice x.a x.n x.c]) K h) := by
  unfold newSlK
  have hp := Ext.push h (.cells #[wv w] T.uint32 (0, 0))
  have hl : s.n = ws.length := by have := hs.rd.len; simpa using this
  refine appendLimbs (hs.frm (S := fun _ => False) hp (fun _ _ x => x)) (Rd.new h _ T.uint32 1 1 rfl) (by simp [Value.oneCell']) (by simp; omega) ?_
  intro s' h' hown _ hf hb _
  refine hK s' h' (by simpa using hown) (hp.frm.trans' hf (fun _ _ x => x)) ?_
  intro b hb1
  rcases hb b hb1 with y | y
  · exact .inl y
  · exact .inr (by simp at y; omega)

/-- A byte is put behind a row that the call owns. -/
theorem pushByte {s : Sl} {xs : List Int} {x : Int} {h : Heap} {K : Sl → Heap → Prop} (hs : Own T.uint8 1 h s (xs.map bv)) (hlen : xs.length ≤ 900000000)
    (hK : ∀ (s' : Sl) (h' : Heap), Own T.uint8 1 h' s' ((xs ++ [x]).map bv) → Frm (fun b => s.blk = some b) h h' → (∀ b, s'.blk = some b → s.blk = some b ∨ h.size ≤ b) → K s' h') :
    newSlK h 1 #[bv x] T.uint8 (fun (x : Sl) (h : Heap) => opK Try.prog .slice (Builtin.append_ #[T.sl_uint8, T.sl_uint8] T.sl_uint8 #[.slice s.a s.n s.c, .slice x.a x.n x.c]) K h) := by
  unfold newSlK
  have hp := Ext.push h (.cells #[bv x] T.uint8 (0, 0))
  have hl : s.n = xs.length := by have := hs.rd.len; simpa using this
  refine appendBytes (hs.frm (S := fun _ => False) hp (fun _ _ x => x)) (Rd.new h _ T.uint8 1 1 rfl) (by simp [Value.oneCell']) (by simp; omega) ?_
  intro s' h' hown _ hf hb _
  refine hK s' h' (by simpa using hown) (hp.frm.trans' hf (fun _ _ x => x)) ?_
  intro b hb1
  rcases hb b hb1 with y | y
  · exact .inl y
  · exact .inr (by simp at y; omega)

theorem getElem?_bv (bs : List Int) (i : Nat) (h : i < bs.length) : (bs.map bv)[i]? = some (Kd.inj (.int .u8) bs[i]) := getElem?_map_lt _ h

/-- Four elements in one go. -/
theorem idx4 {sz : Nat} {h : Heap} {s : Sl} {bs : List Int} {K : Int → Int → Int → Int → Prop} (r : Rd 1 h s (bs.map bv)) (hsz : sz = 1) (j : Nat) (hj : j + 3 < bs.length) (hK : K bs[j] bs[j + 1] bs[j + 2] bs[j + 3]) :
    idxK s (j : Int) sz (fun a => idxK s ((j : Int) + 1) sz (fun b => idxK s ((j : Int) + 2) sz (fun c => idxK s ((j : Int) + 3) sz (fun d =>
      loadK (.int .u8) h (some a) (fun x => loadK (.int .u8) h (some b) (fun y => loadK (.int .u8) h (some c) (fun z => loadK (.int .u8) h (some d) (fun w => K x y z w)))))))) := by
  subst hsz
  have hl := r.len
  rw [List.length_map] at hl
  rcases r.2 with h0 | ⟨b, o, c, e, fz, ha, hb, hc⟩
  · simp at h0; subst h0; simp at hj
  · have hx : ∀ i (hi : i < bs.length), c[o + i]? = some (.int .u8 bs[i]) := fun i hi => by
      rw [hc i (by simpa using hi)]; exact getElem?_map_lt _ hi
    refine ⟨_, ha, ⟨by omega, by omega⟩, _, ha, ⟨by omega, by omega⟩, _, ha, ⟨by omega, by omega⟩, _, ha, ⟨by omega, by omega⟩, ?_⟩
    simp only [Nat.mul_one, addr_add, Int.toNat_natCast, show ((j : Int) + 1).toNat = j + 1 from by omega, show ((j : Int) + 2).toNat = j + 2 from by omega, show ((j : Int) + 3).toNat = j + 3 from by omega]
    exact loadCell hb (k := .int .u8) _ (hx j (by omega)) (loadCell hb (k := .int .u8) _ (hx (j + 1) (by omega)) (loadCell hb (k := .int .u8) _ (hx (j + 2) (by omega)) (loadCell hb (k := .int .u8) _ (hx (j + 3) (by omega)) hK)))

theorem refWords_spec (s : Sl) (bs : List Int) {R : Value → Heap → Prop} {h : Heap} (hr : Rd 1 h s (bs.map bv)) (hb : ∀ x ∈ bs, isByte x) (hl : bs.length ≤ 100000000)
    (H : ∀ (s' : Sl) (h' : Heap) (e : Int), (if bs.length % 4 = 0 then e = 0 ∧ Own T.uint32 1 h' s' ((wordsOf bs).map wv) else e = 4 ∧ Own T.uint32 1 h' s' []) → Ext h h' → (∀ b, s'.blk = some b → h.size ≤ b) → R (.tuple #[.slice s'.a s'.n s'.c, .int .i64 e]) h') :
    HC Try.prog F.ref01_Words #[.slice s.a s.n s.c] R h := by
  refine ref01_Words.calls (b0 := s) ?_
  unfold ref01_Words.body
  have hn : s.n = bs.length := by have := hr.len; simpa using this
  refine ⟨by decide, ?_⟩
  have hm : Int.tmod (s.n : Int) 4 = ((bs.length % 4 : Nat) : Int) := by rw [Int.tmod_eq_emod_of_nonneg (by omega)]; omega
  rw [hm]
  by_cases h4 : bs.length % 4 = 0
  · rw [if_neg (by simp [h4])]
    refine loopW_rule (fun st h' => ∃ (i : Nat) (s' : Sl), 4 * i ≤ bs.length ∧ st = (s', ((4 * i : Nat) : Int)) ∧ Own T.uint32 1 h' s' (((wordsOf bs).take i).map wv) ∧ Ext h h' ∧ (∀ b, s'.blk = some b → h.size ≤ b)) (fun st => bs.length - st.2.toNat)
      ⟨0, ⟨none, 0, 0⟩, by omega, rfl, Own.nil _ _ _, Frm.refl _ _, by simp [Sl.blk]⟩ ?_
    rintro X _ h1 ⟨i, s', hi, rfl, hown, hext, hblk⟩ hX
    dsimp only
    have hwl := wordsOf_length bs
    by_cases hlt : 4 * i < bs.length
    · have h3 : 4 * i + 3 < bs.length := by omega
      rw [if_pos (by simp [hn]; omega)]
      have hr1 := hr.ext hext
      rw [wrapI64 (n := ((4 * i : Nat) : Int) + 1) (by omega) (by omega), wrapI64 (n := ((4 * i : Nat) : Int) + 2) (by omega) (by omega), wrapI64 (n := ((4 * i : Nat) : Int) + 3) (by omega) (by omega), wrapI64 (n := ((4 * i : Nat) : Int) + 4) (by omega) (by omega)]
      refine idx4 hr1 (by kernel_rfl) (4 * i) h3 ?_
      have hw : IntKind.u32.wrap (IntKind.u32.wrap (IntKind.u32.wrap (IntKind.u32.wrap (IntKind.u32.wrap bs[4 * i] * 16777216) + IntKind.u32.wrap (IntKind.u32.wrap bs[4 * i + 1] * 65536)) + IntKind.u32.wrap (IntKind.u32.wrap bs[4 * i + 2] * 256)) + IntKind.u32.wrap bs[4 * i + 3]) =
          ((wordOf bs[4 * i] bs[4 * i + 1] bs[4 * i + 2] bs[4 * i + 3]).toNat : Int) := by
        have ha := hb _ (List.getElem_mem (l := bs) (n := 4 * i) (by omega))
        have hb' := hb _ (List.getElem_mem (l := bs) (n := 4 * i + 1) (by omega))
        have hc := hb _ (List.getElem_mem (l := bs) (n := 4 * i + 2) (by omega))
        have hd := hb _ (List.getElem_mem (l := bs) (n := 4 * i + 3) (by omega))
        rw [wordOf_toNat ha hb' hc hd]
        unfold isByte at *
        simp only [wrapU32_mod]
        omega
      rw [hw]
      refine pushWord hown (by simp; omega) ?_
      intro s2 h2 hown2 hf2 hblk2
      refine hX _ _ ⟨i + 1, s2, by omega, ?_, ?_, ?_, ?_⟩ (by simp; omega)
      · rw [show ((4 * i : Nat) : Int) + 4 = ((4 * (i + 1) : Nat) : Int) from by omega]
      · rw [wordsOf_take bs i h3]; exact hown2
      · refine hext.trans' hf2 ?_
        intro j hj hj2
        exact absurd (hblk j hj2) (by omega)
      · intro b hb
        rcases hblk2 b hb with y | y
        · exact hblk b y
        · have := hext.1; omega
    · rw [if_neg (by simp [hn]; omega)]
      refine H s' h1 0 ?_ hext hblk
      rw [if_pos h4]
      refine ⟨rfl, ?_⟩
      rw [List.take_of_length_le (by omega)] at hown
      exact hown
  · rw [if_pos (by simp; omega)]
    refine H ⟨none, 0, 0⟩ h 4 ?_ (Frm.refl _ _) (by simp [Sl.blk])
    rw [if_neg h4]
    exact ⟨rfl, Own.nil _ _ _⟩

end Go.Proofs.Ytgggpnjjkcfckaa
