/-
  The package codec: contracts of its functions. Readers.
-/
import Derived.Test.YtejjeggaofpbiaaGreatKCodec
set_option linter.unusedSimpArgs false
set_option linter.unusedVariables false
namespace Go.Proofs.YtejjeggaofpbiaaGreat
open Go Go.Ev

/-! ### In plain Lean -/

/-- So many bytes are taken, if they stand there: what is read; whether it is spoilt, and where it stands. -/
def nextR (bs : List Int) (st : Bool × Nat) (n : Nat) : List Int × Bool × Nat :=
  if st.1 = true then ([], st) else if n ≤ bs.length - st.2 then ((bs.drop st.2).take n, (false, st.2 + n)) else ([], (true, st.2))
def numOf (b : List Int) : Int := b.foldl (fun n c => 256 * n + c) 0
def byteR (bs : List Int) (st : Bool × Nat) : Int × Bool × Nat := (numOf (nextR bs st 1).1, (nextR bs st 1).2)
def numR (bs : List Int) (st : Bool × Nat) : Int × Bool × Nat := (numOf (nextR bs st 4).1, (nextR bs st 4).2)
def padTag (b : List Int) : List Int := b ++ List.replicate (32 - b.length) 0
def tagR (bs : List Int) (st : Bool × Nat) : List Int × Bool × Nat := (padTag (nextR bs st 32).1, (nextR bs st 32).2)
def runR (bs : List Int) (st : Bool × Nat) : List Int × Bool × Nat :=
  match numR bs st with
  | (n, st1) => match nextR bs st1 n.toNat with
    | (b, st2) => if st2.1 = true then ([], (true, st.2)) else (b, st2)

theorem nextR_le {bs : List Int} {st : Bool × Nat} {n : Nat} (h : st.2 ≤ bs.length) : (nextR bs st n).2.2 ≤ bs.length := by
  unfold nextR
  split
  · exact h
  · split
    · show st.2 + n ≤ bs.length; omega
    · exact h
theorem nextR_len {bs : List Int} {st : Bool × Nat} {n : Nat} (h : st.2 ≤ bs.length) : (nextR bs st n).1.length ≤ n := by
  unfold nextR
  split
  · simp
  · split
    · simp; omega
    · simp
theorem nextR_len' {bs : List Int} {st : Bool × Nat} {n : Nat} : (nextR bs st n).1.length ≤ bs.length := by
  unfold nextR
  split
  · simp
  · split
    · simp; omega
    · simp
theorem nextR_byte {bs : List Int} {st : Bool × Nat} {n : Nat} (h : ∀ x ∈ bs, isByte x) : ∀ x ∈ (nextR bs st n).1, isByte x := by
  intro x hx
  unfold nextR at hx
  split at hx
  · simp at hx
  · split at hx
    · exact h x (List.mem_of_mem_drop (List.mem_of_mem_take hx))
    · simp at hx
theorem foldNum : ∀ (b : List Int) (a k : Int), (∀ x ∈ b, isByte x) → 0 ≤ a → a < k → 0 ≤ b.foldl (fun n c => 256 * n + c) a ∧ b.foldl (fun n c => 256 * n + c) a < k * 256 ^ b.length
  | [], a, k, _, h1, h2 => by simpa using ⟨h1, h2⟩
  | c :: b, a, k, hb, h1, h2 => by
    have hc := hb c List.mem_cons_self
    unfold isByte at hc
    have h := foldNum b (256 * a + c) (k * 256) (fun x hx => hb x (List.mem_cons_of_mem _ hx)) (by omega) (by omega)
    rw [List.foldl_cons, List.length_cons, Int.pow_succ, Int.mul_comm (256 ^ b.length) 256, ← Int.mul_assoc]
    exact h
theorem pow256 (k : Nat) : (256 : Int) ^ k = ((256 ^ k : Nat) : Int) := by rw [Int.natCast_pow]; rfl
theorem numOf_bound {b : List Int} (hb : ∀ x ∈ b, isByte x) : 0 ≤ numOf b ∧ numOf b < 256 ^ b.length := by
  have := foldNum b 0 1 hb (by omega) (by omega)
  simpa [numOf] using this
theorem numOf_lt4 {b : List Int} (hb : ∀ x ∈ b, isByte x) (hl : b.length ≤ 4) : 0 ≤ numOf b ∧ numOf b < 4294967296 := by
  obtain ⟨h1, h2⟩ := numOf_bound hb
  have := Nat.pow_le_pow_right (n := 256) (by decide) hl
  rw [pow256] at h2
  exact ⟨h1, by omega⟩
theorem numOf_append (b : List Int) (c : Int) : numOf (b ++ [c]) = 256 * numOf b + c := by simp [numOf, List.foldl_append]
theorem byteR_le {bs : List Int} {st : Bool × Nat} (h : st.2 ≤ bs.length) : (byteR bs st).2.2 ≤ bs.length := nextR_le h
theorem numR_le {bs : List Int} {st : Bool × Nat} (h : st.2 ≤ bs.length) : (numR bs st).2.2 ≤ bs.length := nextR_le h
theorem tagR_le {bs : List Int} {st : Bool × Nat} (h : st.2 ≤ bs.length) : (tagR bs st).2.2 ≤ bs.length := nextR_le h
theorem numR_bound {bs : List Int} {st : Bool × Nat} (h : st.2 ≤ bs.length) (hb : ∀ x ∈ bs, isByte x) : 0 ≤ (numR bs st).1 ∧ (numR bs st).1 < 4294967296 := numOf_lt4 (nextR_byte hb) (nextR_len h)
theorem runR_le {bs : List Int} {st : Bool × Nat} (h : st.2 ≤ bs.length) : (runR bs st).2.2 ≤ bs.length := by
  unfold runR
  dsimp only
  split
  · exact h
  · exact nextR_le (numR_le h)
theorem padTag_length {b : List Int} (h : b.length ≤ 32) : (padTag b).length = 32 := by simp [padTag]; omega

theorem tagR_len {bs : List Int} {st : Bool × Nat} (h : st.2 ≤ bs.length) : (tagR bs st).1.length = 32 := padTag_length (nextR_len h)
theorem tagR_byte {bs : List Int} {st : Bool × Nat} (h : ∀ x ∈ bs, isByte x) : ∀ x ∈ (tagR bs st).1, isByte x := by
  intro x hx
  unfold tagR padTag at hx
  rcases List.mem_append.1 hx with hx | hx
  · exact nextR_byte h x hx
  · rw [(List.mem_replicate.1 hx).2]; unfold isByte; omega
theorem runR_len {bs : List Int} {st : Bool × Nat} : (runR bs st).1.length ≤ bs.length := by
  unfold runR
  dsimp only
  split
  · simp
  · exact nextR_len'
theorem runR_byte {bs : List Int} {st : Bool × Nat} (h : ∀ x ∈ bs, isByte x) : ∀ x ∈ (runR bs st).1, isByte x := by
  intro x hx
  unfold runR at hx
  dsimp only at hx
  split at hx
  · simp at hx
  · exact nextR_byte h x hx

theorem or64 {n c : Int} (hn : 0 ≤ n) (hn2 : n < 16777216) (hc : isByte c) : IntKind.i64.wrap ((BitVec.ofInt (IntKind.bits .i64) (IntKind.i64.wrap (n * 2 ^ min (Int.toNat 8) (IntKind.bits .i64))) ||| BitVec.ofInt (IntKind.bits .i64) (IntKind.i64.wrap c)).toNat : Int) = 256 * n + c := by
  unfold isByte at hc
  obtain ⟨a, rfl⟩ : ∃ a : Nat, n = a := ⟨n.toNat, by omega⟩
  obtain ⟨b, rfl⟩ : ∃ b : Nat, c = b := ⟨c.toNat, by omega⟩
  have h8 : ((2 : Int) ^ min (Int.toNat 8) (IntKind.bits .i64)) = 256 := by decide
  rw [h8, wrapI64 (n := (a : Int) * 256) (by omega) (by omega), wrapI64 (n := (b : Int)) (by omega) (by omega)]
  show IntKind.i64.wrap ((BitVec.ofInt 64 ((a : Int) * 256) ||| BitVec.ofInt 64 (b : Int)).toNat : Int) = _
  have e1 : BitVec.ofInt 64 ((a : Int) * 256) = BitVec.ofNat 64 (a <<< 8) := by
    apply BitVec.eq_of_toNat_eq
    rw [BitVec.toNat_ofInt, BitVec.toNat_ofNat, Nat.shiftLeft_eq]
    simp only [Nat.reducePow]
    omega
  have e2 : BitVec.ofInt 64 (b : Int) = BitVec.ofNat 64 b := by
    apply BitVec.eq_of_toNat_eq
    rw [BitVec.toNat_ofInt, BitVec.toNat_ofNat]
    simp only [Nat.reducePow]
    omega
  rw [e1, e2, BitVec.toNat_or, BitVec.toNat_ofNat, BitVec.toNat_ofNat, Nat.mod_eq_of_lt (by rw [Nat.shiftLeft_eq]; omega), Nat.mod_eq_of_lt (by omega), ← Nat.shiftLeft_add_eq_or_of_lt (by omega : b < 2 ^ 8), Nat.shiftLeft_eq, wrapI64 (by omega) (by omega)]
  omega

/-! ### Readers -/

/-- What spoilt a reader. -/
def badE (b : Bool) : Int := if b = true then 4 else 0
theorem badE_0 (b : Bool) : (badE b == 0) = !b := by cases b <;> rfl
theorem overPad (b : List Int) (h : b.length ≤ 32) : overA (Array.replicate 32 (.int .u8 0)) 0 (b.map byV) = tagA (padTag b) := by
  unfold overA padTag
  show _ = (⟨(b ++ List.replicate (32 - b.length) 0).map byV⟩ : Array Value)
  simp only [Array.toList_replicate, List.take_zero, List.nil_append, Nat.zero_add, List.length_map, List.drop_replicate, List.map_append, List.map_replicate]

/-- Is that all? -/
def endR (bs : List Int) (st : Bool × Nat) : Int := if st.1 = true ∨ st.2 < bs.length then 4 else 0
/-! ### The same, what comes out being told -/

theorem wTag_to {g : GH} {kp kb c p : Nat} {e e' : Int} {bs bs' : List Int} (hk : kp ≠ kb) (hcp : c ≠ kp) (hcb : c ≠ kb) (hw : WrC g kp kb p e bs) (v : Sl) (xs : List (List Int)) (hr : SlC g c ShTag v xs) (hl : xs.length ≤ 1000000000) (hput : putAll yes tagB (e, bs) xs = (e', bs')) {R : Value → Heap → Prop}
    (H : ∀ g' : GH, Mv [kp, kb] g g' → WrC g' kp kb p e' bs' → R (.int .i64 e') g'.h) : HC Tryz.prog F.codec_Writer_Tag #[.pointer (some ⟨p, 0, none⟩), .slice v.a v.n v.c] R g.h := by
  refine wTag_spec hk hcp hcb hw v xs hr hl ?_
  rw [hput]
  exact H
theorem wRun_to {g : GH} {kp kb c p : Nat} {e e' : Int} {bs bs' : List Int} (hk : kp ≠ kb) (hcp : c ≠ kp) (hcb : c ≠ kb) (hw : WrC g kp kb p e bs) (v : Sl) (xs : List (List Int)) (hr : RowsC g c v xs) (hxl : ∀ x ∈ xs, x.length ≤ 90000000) (hl : xs.length ≤ 1000000000) (hput : putAll yes runB (e, bs) xs = (e', bs')) {R : Value → Heap → Prop}
    (H : ∀ g' : GH, Mv [kp, kb] g g' → WrC g' kp kb p e' bs' → R (.int .i64 e') g'.h) : HC Tryz.prog F.codec_Writer_Run #[.pointer (some ⟨p, 0, none⟩), .slice v.a v.n v.c] R g.h := by
  refine wRun_spec hk hcp hcb hw v xs hr hxl hl ?_
  rw [hput]
  exact H
/-- One tag as a slice. -/
theorem oneTag {g : GH} {c : Nat} {v : Sl} {t : List Int} (hl : t.length = 32) (hb : ∀ x ∈ t, isByte x) (o : RdC 32 g c v (t.map byV)) (hn : v.n = 1) (hc : v.c = 1) : SlC g c ShTag v [t] := by
  have l := LayC.ofEnc (g := g) (c := c) (s := ShTag) rfl (x := t) (okTag hl hb)
  rw [encTag] at l
  exact SlC.one (by omega) hn o l
theorem buildTag_C (g : GH) (c : Nat) {t : List Int} (hl : t.length = 32) (hb : ∀ x ∈ t, isByte x) {K : Sl → Heap → Prop} (H : ∀ (s : Sl) (g' : GH), Mv [] g g' → SlC g' c ShTag s [t] → K s g'.h) : opK Tryz.prog .slice (Instr.buildSlice T.sl_api_Tag 1 #[(0, .agg (tagA t))]) K g.h :=
  buildRows_C (e := T.api_Tag) (sz := 32) (z := .agg (Array.replicate 32 (.int .u8 0))) (by kernel_rfl) (by kernel_rfl) (by decide) [.agg (tagA t)] rfl (by simp [Value.cells, hl]) rfl (by simp) (by simp) g c fun s g' m o hn hc =>
    H s g' m (oneTag hl hb (by simpa [Value.cells] using o.rd) hn hc)

end Go.Proofs.YtejjeggaofpbiaaGreat
