/-
  Whether bytes bear the mark of a table's tags.
-/
import Derived.Test.YtgllngcoclnpeaaKTags
import Derived.Test.YtgllngcoclnpeaaMarks
set_option linter.unusedSimpArgs false
set_option linter.unusedVariables false
namespace Go.Proofs.Ytgllngcoclnpeaa
open Go Go.Ev

theorem cellOf {w : World} {s : Sl} {vs : List Value} {g : GH} {c : Nat} (hw : w.heap = g.h) (r : RdC 1 g c s vs) {a : Addr} (ha : s.a = some a) {i : Nat} (hi : i < vs.length) : w.cell? (a.add i) = vs[i]? := by
  obtain ⟨h1, h2⟩ := r.rd
  rcases h2 with rfl | ⟨b, o, cs, e, fz, ha', hb, hc⟩
  · simp at hi
  · rw [ha] at ha'
    obtain rfl : a = ⟨b, o, none⟩ := Option.some.inj ha'
    rw [addr_add]
    unfold World.cell?
    rw [hw]
    simp only [hb]
    simpa using hc i hi
def markT (xs : List Int) : Bool := Lib.contains (Lib.bytesOf xs) (Lib.bytesOf zugB)
theorem zugB_byte : ∀ x ∈ zugB, isByte x := by simp [zugB, isByte]
theorem bytesOf_inj {xs ys : List Int} (hx : ∀ x ∈ xs, isByte x) (hy : ∀ y ∈ ys, isByte y) (h : Lib.bytesOf xs = Lib.bytesOf ys) : xs = ys := by
  induction xs generalizing ys with
  | nil =>
    cases ys with
    | nil => rfl
    | cons y ys => simp [Lib.bytesOf] at h
  | cons x xs ih =>
    cases ys with
    | nil => simp [Lib.bytesOf] at h
    | cons y ys =>
      simp only [Lib.bytesOf, List.map_cons, List.cons.injEq] at h
      have h1 := hx x (by simp)
      have h2 := hy y (by simp)
      unfold isByte at h1 h2
      have e1 : x = y := by
        have := congrArg UInt8.toNat h.1
        rw [UInt8.toNat_ofNat', UInt8.toNat_ofNat', Nat.mod_eq_of_lt (by omega), Nat.mod_eq_of_lt (by omega)] at this
        omega
      rw [e1, ih (fun z hz => hx z (by simp [hz])) (fun z hz => hy z (by simp [hz])) h.2]
/-- The mark stands at a place. -/
theorem markT_iff {xs : List Int} (hx : ∀ x ∈ xs, isByte x) : markT xs = true ↔ ∃ i, i + 8 ≤ xs.length ∧ (xs.drop i).take 8 = zugB := by
  have hz : (Lib.bytesOf zugB).length = 8 := rfl
  have hlen : (Lib.bytesOf xs).length = xs.length := by simp [Lib.bytesOf]
  have key : ∀ i, i + 8 ≤ xs.length → (Lib.occAt (Lib.bytesOf xs) (Lib.bytesOf zugB) i = true ↔ (xs.drop i).take 8 = zugB) := by
    intro i hi
    rw [Lib.occAt_iff_take _ _ _ (by rw [hz, hlen]; exact hi), beq_iff_eq, hz]
    have e : ((Lib.bytesOf xs).drop i).take 8 = Lib.bytesOf ((xs.drop i).take 8) := by simp [Lib.bytesOf, List.map_take, List.map_drop]
    rw [e]
    exact ⟨fun h => bytesOf_inj (fun x h => hx x (List.mem_of_mem_drop (List.mem_of_mem_take h))) zugB_byte h, fun h => by rw [h]⟩
  unfold markT Lib.contains
  rw [decide_eq_true_eq]
  constructor
  · intro h
    rcases Lib.index_spec (Lib.bytesOf xs) (Lib.bytesOf zugB) with ⟨h1, _⟩ | ⟨i, h1, h2, h3, _⟩
    · omega
    · have hr : i + 8 ≤ xs.length := by
        rcases Lib.occAt_room h3 with h | h
        · rw [hz, hlen] at h; exact h
        · cases h
      exact ⟨i, hr, (key i hr).1 h3⟩
  · rintro ⟨i, hi, h⟩
    rcases Lib.index_spec (Lib.bytesOf xs) (Lib.bytesOf zugB) with ⟨h1, h2⟩ | ⟨j, h1, _⟩
    · have := h2 i (by rw [hlen]; omega)
      rw [(key i hi).2 h] at this
      cases this
    · omega
theorem markT_num (n : Int) : markT (numT n) = true := (markT_iff (numT_byte n)).2 ⟨0, by rw [numT_length]; omega, rfl⟩

end Go.Proofs.Ytgllngcoclnpeaa
