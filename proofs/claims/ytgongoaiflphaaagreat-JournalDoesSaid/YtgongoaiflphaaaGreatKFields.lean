/-
  Fields that are put and read again, in plain Lean.
-/
import Derived.Test.YtgongoaiflphaaaGreatKReader
set_option linter.unusedSimpArgs false
set_option linter.unusedVariables false
namespace Go.Proofs.YtgongoaiflphaaaGreat
open Go Go.Ev

theorem fdivPos (n : Int) (k : Int) (hk : 0 ≤ k) : Int.fdiv n k = n / k := Int.fdiv_eq_ediv_of_nonneg _ hk
theorem fourB_eq (n : Int) : fourB n = [n / 16777216 % 256, n / 65536 % 256, n / 256 % 256, n % 256] := by
  unfold fourB
  rw [fdivPos _ _ (by decide), fdivPos _ _ (by decide), fdivPos _ _ (by decide), wrapU8_mod, wrapU8_mod, wrapU8_mod, wrapU8_mod]
theorem fourB_byte (n : Int) : ∀ x ∈ fourB n, isByte x := by
  rw [fourB_eq]
  intro x hx
  unfold isByte
  simp only [List.mem_cons, List.not_mem_nil, or_false] at hx
  rcases hx with rfl | rfl | rfl | rfl <;> omega
theorem oneB_eq {c : Int} (h : isByte c) : oneB c = [c] := by unfold isByte at h; unfold oneB; rw [wrapU8 (by omega) (by omega)]
theorem oneB_byte (n : Int) : ∀ x ∈ oneB n, isByte x := by
  intro x hx
  unfold oneB at hx
  rw [wrapU8_mod] at hx
  simp only [List.mem_singleton] at hx
  unfold isByte; omega
theorem fourB_numOf {b : List Int} (hl : b.length = 4) (hb : ∀ x ∈ b, isByte x) : fourB (numOf b) = b := by
  rcases b with _ | ⟨a, _ | ⟨c, _ | ⟨d, _ | ⟨e, _ | ⟨f, r⟩⟩⟩⟩⟩ <;> simp at hl
  simp only [List.mem_cons, List.not_mem_nil, or_false, forall_eq_or_imp, forall_eq, isByte] at hb
  have : numOf [a, c, d, e] = ((a * 256 + c) * 256 + d) * 256 + e := by simp [numOf]; omega
  rw [fourB_eq, this]
  simp only [List.cons.injEq, and_true]
  omega
theorem numOf_fourB {n : Int} (h0 : 0 ≤ n) (h1 : n < 4294967296) : numOf (fourB n) = n := by
  rw [fourB_eq]
  have : ∀ a c d e : Int, numOf [a, c, d, e] = ((a * 256 + c) * 256 + d) * 256 + e := fun a c d e => by simp [numOf]; omega
  rw [this]
  omega
theorem padTag_eq {b : List Int} (h : b.length = 32) : padTag b = b := by simp [padTag, h]
theorem take_next (bs : List Int) (pos n : Nat) : bs.take pos ++ (bs.drop pos).take n = bs.take (pos + n) := by rw [List.take_add]

/-- One field that fits is put. -/
theorem put_one {α : Type} {may : α → Bool} {of : α → List Int} {out : List Int} {x : α} (h : may x = true) (hl : out.length + (of x).length ≤ 65536) : putAll may of (0, out) [x] = (0, out ++ of x) := by
  simp [putAll, putStep, h]; omega

theorem nextR_bad {bs : List Int} {st : Bool × Nat} {n : Nat} (h : st.1 = true) : nextR bs st n = ([], st) := by simp [nextR, h]
theorem nextR_ok {bs : List Int} {st : Bool × Nat} {n : Nat} (h : (nextR bs st n).2.1 = false) : st.1 = false ∧ n ≤ bs.length - st.2 ∧ nextR bs st n = ((bs.drop st.2).take n, (false, st.2 + n)) := by
  unfold nextR at h ⊢
  split
  · rename_i hb; rw [if_pos hb, hb] at h; cases h
  · rename_i hb
    rw [if_neg hb] at h
    split
    · rename_i hn; exact ⟨by simpa using hb, hn, rfl⟩
    · rename_i hn; rw [if_neg hn] at h; cases h

/-- A reader and a writer that has put what was read. -/
def OneOk (bs : List Int) (st : Bool × Nat) (w : Int × List Int) : Prop := st.2 ≤ bs.length ∧ (st.1 = false → w = (0, bs.take st.2))

theorem oneOk_byte {bs : List Int} {st : Bool × Nat} {w : Int × List Int} (hl : bs.length ≤ 60000) (hb : ∀ x ∈ bs, isByte x) (h : OneOk bs st w) : OneOk bs (byteR bs st).2 (putAll (within 255) oneB w [(byteR bs st).1]) := by
  refine ⟨byteR_le h.1, fun hok => ?_⟩
  obtain ⟨h1, h2, h3⟩ := nextR_ok hok
  have hbb := nextR_byte (st := st) (n := 1) hb
  unfold byteR
  rw [h3] at hbb ⊢
  rw [h.2 h1]
  dsimp only at hbb ⊢
  have hlen : ((bs.drop st.2).take 1).length = 1 := by simp; omega
  rw [← take_next]
  generalize (bs.drop st.2).take 1 = b at hbb hlen
  rcases b with _ | ⟨c, _ | ⟨d, r⟩⟩ <;> simp at hlen
  have hc := hbb c List.mem_cons_self
  have hn : numOf [c] = c := by simp [numOf]
  rw [hn, put_one (by unfold within isByte at *; simpa using hc) (by simp [oneB]; omega), oneB_eq hc]

theorem oneOk_num {bs : List Int} {st : Bool × Nat} {w : Int × List Int} (hl : bs.length ≤ 60000) (hb : ∀ x ∈ bs, isByte x) (h : OneOk bs st w) : OneOk bs (numR bs st).2 (putAll (within 4294967295) fourB w [(numR bs st).1]) := by
  refine ⟨numR_le h.1, fun hok => ?_⟩
  obtain ⟨h1, h2, h3⟩ := nextR_ok hok
  have hbb := nextR_byte (st := st) (n := 4) hb
  have hnb := numR_bound h.1 hb
  unfold numR at hnb ⊢
  rw [h3] at hbb hnb ⊢
  rw [h.2 h1]
  dsimp only at hbb hnb ⊢
  have hlen : ((bs.drop st.2).take 4).length = 4 := by simp; omega
  rw [← take_next, put_one (by unfold within; simp; omega) (by rw [fourB_length]; simp; omega), fourB_numOf hlen hbb]

theorem oneOk_tag {bs : List Int} {st : Bool × Nat} {w : Int × List Int} (hl : bs.length ≤ 60000) (hb : ∀ x ∈ bs, isByte x) (h : OneOk bs st w) : OneOk bs (tagR bs st).2 (putAll yes tagB w [(tagR bs st).1]) := by
  refine ⟨tagR_le h.1, fun hok => ?_⟩
  obtain ⟨h1, h2, h3⟩ := nextR_ok hok
  unfold tagR
  rw [h3, h.2 h1]
  dsimp only
  have hlen : ((bs.drop st.2).take 32).length = 32 := by simp; omega
  rw [← take_next, padTag_eq hlen, put_one rfl (by unfold tagB; rw [hlen]; simp; omega)]
  rfl

theorem oneOk_run {bs : List Int} {st : Bool × Nat} {w : Int × List Int} (hl : bs.length ≤ 60000) (hb : ∀ x ∈ bs, isByte x) (h : OneOk bs st w) : OneOk bs (runR bs st).2 (putAll yes runB w [(runR bs st).1]) := by
  refine ⟨runR_le h.1, fun hok => ?_⟩
  have hnb := numR_bound h.1 hb
  have hbb := nextR_byte (st := st) (n := 4) hb
  unfold runR at hok ⊢
  dsimp only at hok ⊢
  cases hbad : (nextR bs (numR bs st).2 (numR bs st).1.toNat).2.1 with
  | true => rw [hbad, if_pos rfl] at hok; cases hok
  | false =>
    rw [if_neg (by simp)]
    obtain ⟨g1, g2, g3⟩ := nextR_ok hbad
    obtain ⟨h1, h2, h3⟩ := nextR_ok g1
    rw [h.2 h1, g3]
    dsimp only
    have hlen : ((bs.drop st.2).take 4).length = 4 := by simp; omega
    have e1 : (numR bs st).2 = (false, st.2 + 4) := by unfold numR; rw [h3]
    have e2 : (numR bs st).1 = numOf ((bs.drop st.2).take 4) := by unfold numR; rw [h3]
    have hlen2 : ((bs.drop (numR bs st).2.2).take (numR bs st).1.toNat).length = (numR bs st).1.toNat := by simp; omega
    have e3 : runB ((bs.drop (numR bs st).2.2).take (numR bs st).1.toNat) = (bs.drop st.2).take 4 ++ (bs.drop (st.2 + 4)).take (numR bs st).1.toNat := by
      unfold runB
      rw [hlen2, Int.toNat_of_nonneg hnb.1, e1]
      dsimp only
      congr 1
      rw [e2]
      rw [h3] at hbb
      exact fourB_numOf hlen hbb
    have hg : (numR bs st).1.toNat ≤ bs.length - (st.2 + 4) := by rw [e1] at g2; exact g2
    rw [put_one rfl (by rw [e3]; simp; omega), e3, ← List.append_assoc, take_next, take_next, e1]

/-- Fields that all fit are put. -/
theorem put_many {α : Type} {may : α → Bool} {of : α → List Int} : ∀ (xs : List α) (out : List Int), (∀ x ∈ xs, may x = true) → out.length + (xs.flatMap of).length ≤ 65536 → putAll may of (0, out) xs = (0, out ++ xs.flatMap of)
  | [], out, _, _ => by simp [putAll]
  | x :: xs, out, hm, h => by
    rw [List.flatMap_cons, List.length_append] at h
    have : putStep may of (0, out) x = (0, out ++ of x) := by simp [putStep, hm x List.mem_cons_self]; omega
    rw [putAll_cons, this, put_many xs _ (fun y hy => hm y (List.mem_cons_of_mem _ hy)) (by rw [List.length_append]; omega), List.flatMap_cons, List.append_assoc]
theorem bytes_flat : ∀ {xs : List Int}, (∀ x ∈ xs, isByte x) → xs.flatMap oneB = xs
  | [], _ => rfl
  | x :: xs, h => by rw [List.flatMap_cons, oneB_eq (h x List.mem_cons_self), bytes_flat fun y hy => h y (List.mem_cons_of_mem _ hy)]; rfl
theorem put_bytes {xs out : List Int} (h : ∀ x ∈ xs, isByte x) (hl : out.length + xs.length ≤ 65536) : putAll (within 255) oneB (0, out) xs = (0, out ++ xs) := by
  rw [put_many xs out (fun x hx => by have := h x hx; unfold isByte at this; unfold within; simpa using this) (by rw [bytes_flat h]; exact hl), bytes_flat h]
theorem put_num {n : Int} {out : List Int} (h : 0 ≤ n ∧ n ≤ 4294967295) (hl : out.length + 4 ≤ 65536) : putAll (within 4294967295) fourB (0, out) [n] = (0, out ++ fourB n) := put_one (by unfold within; simpa using h) (by rw [fourB_length]; exact hl)
theorem put_tag {t out : List Int} (h : t.length = 32) (hl : out.length + 32 ≤ 65536) : putAll yes tagB (0, out) [t] = (0, out ++ t) := put_one rfl (by unfold tagB; omega)

end Go.Proofs.YtgongoaiflphaaaGreat
