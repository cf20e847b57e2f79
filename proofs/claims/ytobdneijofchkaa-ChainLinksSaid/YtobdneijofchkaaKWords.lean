/-
  Rows of words and of bytes, forth and back: the functions of the package bits, and of the document's own.
-/
import Derived.Test.YtobdneijofchkaaKRef01
import Derived.Test.YtobdneijofchkaaRow
import Derived.Test.YtobdneijofchkaaKTag
set_option linter.unusedSimpArgs false
set_option linter.unusedVariables false
namespace Go.Proofs.Ytobdneijofchkaa
open Go Go.Ev


/-- Four bytes as a word, the highest first. -/
def wordOf (a b c d : Int) : BitVec 32 := BitVec.ofInt 32 (a * 16777216 + b * 65536 + c * 256 + d)

/-- The words of a row of bytes whose length is four times theirs. -/
def wordsOf : List Int → List (BitVec 32)
  | a :: b :: c :: d :: r => wordOf a b c d :: wordsOf r
  | _ => []

theorem wordOf_toNat {a b c d : Int} (ha : isByte a) (hb : isByte b) (hc : isByte c) (hd : isByte d) : ((wordOf a b c d).toNat : Int) = a * 16777216 + b * 65536 + c * 256 + d := by
  unfold wordOf isByte at *
  rw [BitVec.toNat_ofInt]
  simp only [Nat.reducePow]
  omega

theorem be4_wordOf {a b c d : Int} (ha : isByte a) (hb : isByte b) (hc : isByte c) (hd : isByte d) : be4 (wordOf a b c d) = [a, b, c, d] := by
  have h := wordOf_toNat ha hb hc hd
  unfold isByte at *
  unfold be4
  simp only [List.cons.injEq, and_true]
  refine ⟨?_, ?_, ?_, ?_⟩ <;> omega

theorem be4_byte (w : BitVec 32) : ∀ x ∈ be4 w, isByte x := by
  intro x hx
  simp only [be4, List.mem_cons, List.mem_nil_iff, or_false] at hx
  unfold isByte
  rcases hx with rfl | rfl | rfl | rfl <;> omega

theorem wordOf_be4 (w : BitVec 32) : wordOf ((w.toNat / 16777216 % 256 : Nat) : Int) ((w.toNat / 65536 % 256 : Nat) : Int) ((w.toNat / 256 % 256 : Nat) : Int) ((w.toNat % 256 : Nat) : Int) = w := by
  apply BitVec.eq_of_toNat_eq
  have h := wordOf_toNat (a := ((w.toNat / 16777216 % 256 : Nat) : Int)) (b := ((w.toNat / 65536 % 256 : Nat) : Int)) (c := ((w.toNat / 256 % 256 : Nat) : Int)) (d := ((w.toNat % 256 : Nat) : Int))
    (by unfold isByte; omega) (by unfold isByte; omega) (by unfold isByte; omega) (by unfold isByte; omega)
  have := w.isLt
  omega

theorem wordsOf_be4 : ∀ (ws : List (BitVec 32)), wordsOf (ws.flatMap be4) = ws
  | [] => rfl
  | w :: ws => by
    rw [List.flatMap_cons, be4, List.cons_append, List.cons_append, List.cons_append, List.cons_append, List.nil_append, wordsOf, wordOf_be4, wordsOf_be4 ws]

theorem flatMap_wordsOf : ∀ (bs : List Int), bs.length % 4 = 0 → (∀ x ∈ bs, isByte x) → (wordsOf bs).flatMap be4 = bs
  | [], _, _ => rfl
  | [_], h, _ => by simp at h
  | [_, _], h, _ => by simp at h
  | [_, _, _], h, _ => by simp at h
  | a :: b :: c :: d :: r, h, hb => by
    rw [wordsOf, List.flatMap_cons, be4_wordOf (hb a (by simp)) (hb b (by simp)) (hb c (by simp)) (hb d (by simp)), flatMap_wordsOf r (by simp at h; omega) (fun x hx => hb x (by simp [hx]))]
    rfl

theorem wordsOf_length : ∀ (bs : List Int), (wordsOf bs).length = bs.length / 4
  | [] => rfl
  | [_] => by simp [wordsOf]
  | [_, _] => by simp [wordsOf]
  | [_, _, _] => by simp [wordsOf]
  | a :: b :: c :: d :: r => by
    rw [wordsOf, List.length_cons, wordsOf_length r]; simp only [List.length_cons]; omega

theorem wordsOf_get : ∀ (bs : List Int) (i : Nat) (h : 4 * i + 3 < bs.length), (wordsOf bs)[i]? = some (wordOf bs[4 * i] bs[4 * i + 1] bs[4 * i + 2] bs[4 * i + 3])
  | [], i, h => by simp at h
  | [_], i, h => by simp only [List.length_cons, List.length_nil] at h; omega
  | [_, _], i, h => by simp only [List.length_cons, List.length_nil] at h; omega
  | [_, _, _], i, h => by simp only [List.length_cons, List.length_nil] at h; omega
  | a :: b :: c :: d :: r, 0, h => rfl
  | a :: b :: c :: d :: r, i + 1, h => by
    have := wordsOf_get r i (by simp at h; omega)
    rw [wordsOf, List.getElem?_cons_succ, this]
    rfl

theorem wordsOf_take (bs : List Int) (i : Nat) (h : 4 * i + 3 < bs.length) : (wordsOf bs).take (i + 1) = (wordsOf bs).take i ++ [wordOf bs[4 * i] bs[4 * i + 1] bs[4 * i + 2] bs[4 * i + 3]] := by
  have h1 := wordsOf_get bs i h
  obtain ⟨h2, h3⟩ := List.getElem?_eq_some_iff.1 h1
  rw [List.take_succ_eq_append_getElem h2, h3]


/-! ### Functions -/

theorem oneBv (xs : List Int) : ∀ v ∈ xs.map bv, v.oneCell' = true := by intro v hv; simp at hv; obtain ⟨_, _, rfl⟩ := hv; rfl
theorem oneWv (xs : List (BitVec 32)) : ∀ v ∈ xs.map wv, v.oneCell' = true := by intro v hv; simp at hv; obtain ⟨_, _, rfl⟩ := hv; rfl

theorem Clone_spec (s : Sl) (vs : List Value) {R : Value → Heap → Prop} {h : Heap} (hr : Rd 1 h s vs) (hone : ∀ v ∈ vs, v.oneCell' = true) (hl : vs.length ≤ 900000000)
    (H : ∀ (s' : Sl) (h' : Heap), Own T.uint8 1 h' s' vs → Ext h h' → (∀ b, s'.blk = some b → h.size ≤ b) → R (.slice s'.a s'.n s'.c) h') : HC Try.prog F.slices_Clone_byte_byte #[.slice s.a s.n s.c] R h := by
  refine slices_Clone_byte_byte.calls (s0 := s) ?_
  unfold slices_Clone_byte_byte.body
  have hn := hr.len
  cases ha : s.a with
  | none =>
    rw [if_pos (show (none : Option Addr).isNone = true from rfl)]
    have hv : vs = [] := by
      rcases hr.2 with h0 | ⟨b, o, c, e, fz, h1, _⟩
      · exact h0
      · rw [ha] at h1; cases h1
    subst hv
    exact H ⟨none, 0, 0⟩ h (Own.nil _ _ _) (Frm.refl _ _) (by simp [Sl.blk])
  | some a =>
    rw [if_neg (by simp)]
    unfold newSlK
    have hp := Ext.push h (.cells #[] T.uint8 (0, 0))
    have hr' : Rd 1 (h.push (.cells #[] T.uint8 (0, 0))) ⟨some a, s.n, s.c⟩ vs := by rw [← ha]; exact hr.ext hp
    refine appendBytes (Own.new h #[] T.uint8 0 rfl) hr' hone (by simp; omega) ?_
    intro s1 h1 hown hn1 hf hb _
    refine H s1 h1 hown ?_ ?_
    · refine hp.trans' hf ?_
      intro i hi hs
      simp [Sl.blk] at hs
      omega
    · intro b hb1
      rcases hb b hb1 with y | y
      · simp [Sl.blk] at y; omega
      · simp at y; omega

theorem or4 {a b c d : Int} (ha : isByte a) (hb : isByte b) (hc : isByte c) (hd : isByte d) :
    IntKind.u32.wrap ((BitVec.ofInt (IntKind.bits .u32) (IntKind.u32.wrap ((BitVec.ofInt (IntKind.bits .u32) (IntKind.u32.wrap ((BitVec.ofInt (IntKind.bits .u32) (IntKind.u32.wrap ((IntKind.u32.wrap a) * 2 ^ min 24 (IntKind.bits .u32))) |||
      BitVec.ofInt (IntKind.bits .u32) (IntKind.u32.wrap ((IntKind.u32.wrap b) * 2 ^ min 16 (IntKind.bits .u32)))).toNat : Int)) ||| BitVec.ofInt (IntKind.bits .u32) (IntKind.u32.wrap ((IntKind.u32.wrap c) * 2 ^ min 8 (IntKind.bits .u32)))).toNat : Int)) |||
      BitVec.ofInt (IntKind.bits .u32) (IntKind.u32.wrap d)).toNat : Int) = ((wordOf a b c d).toNat : Int) := by
  have hw := wordOf_toNat ha hb hc hd
  unfold isByte at *
  obtain ⟨A, rfl⟩ := ltU32 (n := a) (by omega) (by omega)
  obtain ⟨B, rfl⟩ := ltU32 (n := b) (by omega) (by omega)
  obtain ⟨C, rfl⟩ := ltU32 (n := c) (by omega) (by omega)
  obtain ⟨D, rfl⟩ := ltU32 (n := d) (by omega) (by omega)
  rw [wrapBv, wrapBv, wrapBv, wrapBv, shlBv, shlBv, shlBv, orV, orV, orV, hw]
  have e1 : (A <<< 24 ||| B <<< 16 ||| C <<< 8 ||| D).toNat = A.toNat * 16777216 + B.toNat * 65536 + C.toNat * 256 + D.toNat := by
    have f1 : (A <<< 24).toNat = A.toNat <<< 24 := by
      rw [BitVec.toNat_shiftLeft, Nat.shiftLeft_eq, Nat.mod_eq_of_lt (by omega)]
    have f2 : (B <<< 16).toNat = B.toNat <<< 16 := by
      rw [BitVec.toNat_shiftLeft, Nat.shiftLeft_eq, Nat.mod_eq_of_lt (by omega)]
    have f3 : (C <<< 8).toNat = C.toNat <<< 8 := by
      rw [BitVec.toNat_shiftLeft, Nat.shiftLeft_eq, Nat.mod_eq_of_lt (by omega)]
    have g1 : A.toNat <<< 24 ||| B.toNat <<< 16 = (A.toNat * 256 + B.toNat) <<< 16 := by
      rw [← Nat.shiftLeft_add_eq_or_of_lt (by rw [Nat.shiftLeft_eq]; omega)]; simp only [Nat.shiftLeft_eq]; omega
    have g2 : (A.toNat * 256 + B.toNat) <<< 16 ||| C.toNat <<< 8 = ((A.toNat * 256 + B.toNat) * 256 + C.toNat) <<< 8 := by
      rw [← Nat.shiftLeft_add_eq_or_of_lt (by rw [Nat.shiftLeft_eq]; omega)]; simp only [Nat.shiftLeft_eq]; omega
    have g3 : ((A.toNat * 256 + B.toNat) * 256 + C.toNat) <<< 8 ||| D.toNat = ((A.toNat * 256 + B.toNat) * 256 + C.toNat) <<< 8 + D.toNat := by
      rw [← Nat.shiftLeft_add_eq_or_of_lt (by omega)]
    rw [BitVec.toNat_or, BitVec.toNat_or, BitVec.toNat_or, f1, f2, f3, g1, g2, g3, Nat.shiftLeft_eq]
    omega
  omega

/-- A slice that lies in the same block as another one, or in none. -/
theorem row_take_spec' (rb : Nat) (s : Sl) (rest : List Value) (e : TypeId) (a b c d : Int) (bs : List Int) {R : Value → Heap → Prop} {h : Heap}
    (hb : Blk h rb ⟨.slice s.a s.n s.c :: rest⟩ e) (hs : Rd 1 h s ((a :: b :: c :: d :: bs).map bv)) (hcap : s.n ≤ s.c) (hne : s.blk ≠ some rb) (hby : isByte a ∧ isByte b ∧ isByte c ∧ isByte d)
    (H : ∀ (s' : Sl) (h' : Heap), Blk h' rb ⟨.slice s'.a s'.n s'.c :: rest⟩ e → Rd 1 h' s' (bs.map bv) → s'.n ≤ s'.c → (∀ b, s'.blk = some b → s.blk = some b) → Frm (· = rb) h h' → h'.size = h.size → R (wv (wordOf a b c d)) h') :
    HC Try.prog F.bits_row_take #[.pointer (some ⟨rb, 0, none⟩)] R h := by
  refine bits_row_take.calls ?_
  unfold bits_row_take.body
  have hl : s.n = bs.length + 4 := by have := hs.len; simpa using this
  have hld : ∀ (K : Sl → Prop), K s → loadK .slice h (some ((⟨rb, 0, none⟩ : Addr).add 0)) K := fun K hK => by
    rw [addr_add]
    exact loadCell hb (k := .slice) s (by simp [Kd.inj]) hK
  have hz : (1 : Nat) = sizeOfT Try.prog T.uint8 := by kernel_rfl
  refine ⟨_, rfl, _, rfl, hld _ ?_⟩
  refine idxLoad hs hz.symm (k := .int .u8) (by omega) a rfl ?_
  refine ⟨by decide, _, rfl, _, rfl, hld _ ?_⟩
  refine idxLoad hs hz.symm (k := .int .u8) (by omega) b rfl ?_
  refine ⟨by decide, _, rfl, _, rfl, hld _ ?_⟩
  refine idxLoad hs hz.symm (k := .int .u8) (by omega) c rfl ?_
  refine ⟨by decide, _, rfl, _, rfl, hld _ ?_⟩
  refine idxLoad hs hz.symm (k := .int .u8) (by omega) d rfl ?_
  refine ⟨_, rfl, _, rfl, hld _ ?_⟩
  refine ⟨4, s.n, s.c, rfl, rfl, ⟨rfl, by omega⟩, ?_⟩
  refine ⟨_, rfl, _, rfl, ?_⟩
  rw [addr_add, Nat.add_zero]
  refine storeCell hb (by simp) rfl ?_
  intro h' hb' hf hsz
  have hd := hs.drop (n := 4) (c := s.c) (sz := sizeOfT Try.prog T.uint8) hz.symm (by simp) hcap
  rw [show Int.toNat 24 = 24 from rfl, show Int.toNat 16 = 16 from rfl, show Int.toNat 8 = 8 from rfl, or4 hby.1 hby.2.1 hby.2.2.1 hby.2.2.2]
  have hne2 : (⟨if s.c = 4 then s.a else s.a.map (·.add (4 * sizeOfT Try.prog T.uint8)), s.n - 4, s.c - 4⟩ : Sl).blk ≠ some rb := by
    rcases hs.2 with h0 | ⟨b0, o0, _, _, _, ha0, _⟩
    · simp at h0
    · have h2 : s.blk = some b0 := by simp [Sl.blk, ha0]
      have h3 : b0 ≠ rb := fun e => hne (by rw [h2, e])
      simp only [Sl.blk, ha0, Option.map_some, addr_add]
      split <;> simp [h3]
  have hsub : ∀ b, (⟨if s.c = 4 then s.a else s.a.map (·.add (4 * sizeOfT Try.prog T.uint8)), s.n - 4, s.c - 4⟩ : Sl).blk = some b → s.blk = some b := by
    intro b hb1
    rcases hs.2 with h0 | ⟨b0, o0, _, _, _, ha0, _⟩
    · simp at h0
    · simp only [Sl.blk, ha0, Option.map_some, addr_add] at hb1 ⊢
      split at hb1 <;> simpa using hb1
  refine H ⟨if s.c = 4 then s.a else s.a.map (·.add (4 * sizeOfT Try.prog T.uint8)), s.n - 4, s.c - 4⟩ h' ?_ ?_ ?_ hsub hf hsz
  · simpa using hb'
  · have h5 := hd.frm hf (fun b hb x => hne2 (by rw [hb, x]))
    simpa using h5
  · show s.n - 4 ≤ s.c - 4
    omega

theorem appendWords {s x : Sl} {vs ws : List Value} {h : Heap} (hs : Own T.uint32 1 h s vs) (hx : Rd 1 h x ws) (hone : ∀ v ∈ ws, v.oneCell' = true) (hlen : s.n + x.n ≤ 1000000000) {K : Sl → Heap → Prop}
    (hK : ∀ (s' : Sl) (h' : Heap), Own T.uint32 1 h' s' (vs ++ ws) → s'.n = s.n + x.n → Frm (fun b => s.blk = some b) h h' → (∀ b, s'.blk = some b → s.blk = some b ∨ h.size ≤ b) → (s'.a = none → s.n + x.n = 0) → K s' h') :
    opK Try.prog .slice (Builtin.append_ #[T.sl_uint32, T.sl_uint32] T.sl_uint32 #[.slice s.a s.n s.c, .slice x.a x.n x.c]) K h := appendLimbs hs hx hone hlen hK

/-- A word is put behind a row that the call owns. -/
theorem pushWord {s : Sl} {ws : List (BitVec 32)} {w : BitVec 32} {h : Heap} {K : Sl → Heap → Prop} (hs : Own T.uint32 1 h s (ws.map wv)) (hlen : ws.length ≤ 900000000)
    (hK : ∀ (s' : Sl) (h' : Heap), Own T.uint32 1 h' s' ((ws ++ [w]).map wv) → Frm (fun b => s.blk = some b) h h' → (∀ b, s'.blk = some b → s.blk = some b ∨ h.size ≤ b) → K s' h') :
    newSlK h 1 #[wv w] T.uint32 (fun (x : Sl) (h : Heap) => opK Try.prog .slice (Builtin.append_ #[T.sl_uint32, T.sl_uint32] T.sl_uint32 #[.slice s.a s.n s.c, .slice x.a x.n x.c]) K h) := by
  unfold newSlK
  have hp := Ext.push h (.cells #[wv w] T.uint32 (0, 0))
  have hl : s.n = ws.length := by have := hs.rd.len; simpa using this
  refine appendLimbs (hs.frm (S := fun _ => False) hp (fun _ _ x => x)) (Rd.new h _ T.uint32 1 1 rfl) (by simp [Value.oneCell']) (by simp; omega) ?_
  intro s' h' hown _ hf hb _
  refine hK s' h' (by simpa using hown) (hp.frm.trans' hf (fun _ _ x => x)) ?_
  intro b hb1
  rcases hb b hb1 with y | y
  · exact .inl y
  · exact .inr (by simp at y; omega)

/-- A byte is put behind a row that the call owns. -/
theorem pushByte {s : Sl} {xs : List Int} {x : Int} {h : Heap} {K : Sl → Heap → Prop} (hs : Own T.uint8 1 h s (xs.map bv)) (hlen : xs.length ≤ 900000000)
    (hK : ∀ (s' : Sl) (h' : Heap), Own T.uint8 1 h' s' ((xs ++ [x]).map bv) → Frm (fun b => s.blk = some b) h h' → (∀ b, s'.blk = some b → s.blk = some b ∨ h.size ≤ b) → K s' h') :
    newSlK h 1 #[bv x] T.uint8 (fun (x : Sl) (h : Heap) => opK Try.prog .slice (Builtin.append_ #[T.sl_uint8, T.sl_uint8] T.sl_uint8 #[.slice s.a s.n s.c, .slice x.a x.n x.c]) K h) := by
  unfold newSlK
  have hp := Ext.push h (.cells #[bv x] T.uint8 (0, 0))
  have hl : s.n = xs.length := by have := hs.rd.len; simpa using this
  refine appendBytes (hs.frm (S := fun _ => False) hp (fun _ _ x => x)) (Rd.new h _ T.uint8 1 1 rfl) (by simp [Value.oneCell']) (by simp; omega) ?_
  intro s' h' hown _ hf hb _
  refine hK s' h' (by simpa using hown) (hp.frm.trans' hf (fun _ _ x => x)) ?_
  intro b hb1
  rcases hb b hb1 with y | y
  · exact .inl y
  · exact .inr (by simp at y; omega)

theorem getElem?_bv (bs : List Int) (i : Nat) (h : i < bs.length) : (bs.map bv)[i]? = some (Kd.inj (.int .u8) bs[i]) := getElem?_map_lt _ h

/-- Four elements in one go. -/
theorem idx4 {sz : Nat} {h : Heap} {s : Sl} {bs : List Int} {K : Int → Int → Int → Int → Prop} (r : Rd 1 h s (bs.map bv)) (hsz : sz = 1) (j : Nat) (hj : j + 3 < bs.length) (hK : K bs[j] bs[j + 1] bs[j + 2] bs[j + 3]) :
    idxK s (j : Int) sz (fun a => idxK s ((j : Int) + 1) sz (fun b => idxK s ((j : Int) + 2) sz (fun c => idxK s ((j : Int) + 3) sz (fun d =>
      loadK (.int .u8) h (some a) (fun x => loadK (.int .u8) h (some b) (fun y => loadK (.int .u8) h (some c) (fun z => loadK (.int .u8) h (some d) (fun w => K x y z w)))))))) := by
  subst hsz
  have hl := r.len
  rw [List.length_map] at hl
  rcases r.2 with h0 | ⟨b, o, c, e, fz, ha, hb, hc⟩
  · simp at h0; subst h0; simp at hj
  · have hx : ∀ i (hi : i < bs.length), c[o + i]? = some (.int .u8 bs[i]) := fun i hi => by
      rw [hc i (by simpa using hi)]; exact getElem?_map_lt _ hi
    refine ⟨_, ha, ⟨by omega, by omega⟩, _, ha, ⟨by omega, by omega⟩, _, ha, ⟨by omega, by omega⟩, _, ha, ⟨by omega, by omega⟩, ?_⟩
    simp only [Nat.mul_one, addr_add, Int.toNat_natCast, show ((j : Int) + 1).toNat = j + 1 from by omega, show ((j : Int) + 2).toNat = j + 2 from by omega, show ((j : Int) + 3).toNat = j + 3 from by omega]
    exact loadCell hb (k := .int .u8) _ (hx j (by omega)) (loadCell hb (k := .int .u8) _ (hx (j + 1) (by omega)) (loadCell hb (k := .int .u8) _ (hx (j + 2) (by omega)) (loadCell hb (k := .int .u8) _ (hx (j + 3) (by omega)) hK)))

end Go.Proofs.Ytobdneijofchkaa
