/-
  Whether bytes bear the mark of a table's tags.
-/
import Derived.Test.YtijipdaofojbiaaKTags
import Derived.Test.YtijipdaofojbiaaMarks
set_option linter.unusedSimpArgs false
set_option linter.unusedVariables false
namespace Go.Proofs.Ytijipdaofojbiaa
open Go Go.Ev

/-- The library's own variable holds some number. -/
def MaxC (g : GH) (c : Nat) : Prop := ∃ (cells : Array Value) (e : TypeId) (fz : Nat × Nat) (m : Int), g.h[Try.laysM186_ren.g 1]? = some (.cells cells e fz) ∧ g.γ (Try.laysM186_ren.g 1) = c ∧ cells[0]? = some (.int .i64 m)
theorem MaxC.mv {K : List Nat} {g g' : GH} {c : Nat} (x : MaxC g c) (m : Mv K g g') (h : c ∉ K) : MaxC g' c := by
  obtain ⟨cells, e, fz, n, b, hc, h0⟩ := x
  exact ⟨cells, e, fz, n, m.get b (by rw [hc]; exact h), by rw [m.col' b]; exact hc, h0⟩
theorem MaxC.base {g : GH} {c : Nat} (x : MaxC g c) : MaxC g.base 0 := by
  obtain ⟨cells, e, fz, n, b, _, h0⟩ := x
  exact ⟨cells, e, fz, n, b, rfl, h0⟩
theorem cellOf {w : World} {s : Sl} {vs : List Value} {g : GH} {c : Nat} (hw : w.heap = g.h) (r : RdC 1 g c s vs) {a : Addr} (ha : s.a = some a) {i : Nat} (hi : i < vs.length) : w.cell? (a.add i) = vs[i]? := by
  obtain ⟨h1, h2⟩ := r.rd
  rcases h2 with rfl | ⟨b, o, cs, e, fz, ha', hb, hc⟩
  · simp at hi
  · rw [ha] at ha'
    obtain rfl : a = ⟨b, o, none⟩ := Option.some.inj ha'
    rw [addr_add]
    unfold World.cell?
    rw [hw]
    simp only [hb]
    simpa using hc i hi
theorem MaxC.of {w : World} (h : ∃ m, w.cell? ⟨Try.laysM186_ren.g 1, 0, none⟩ = some (.int .i64 m)) : MaxC ⟨w.heap, fun _ => 0⟩ 0 := by
  obtain ⟨m, hm⟩ := h
  unfold World.cell? at hm
  split at hm
  · rename_i c e fz hb
    exact ⟨c, e, fz, m, hb, rfl, by simpa using hm⟩
  · cases hm

set_option maxRecDepth 20000 in
theorem contains_spec {g : GH} {c d k : Nat} (mx : MaxC g k) {a b : Sl} {xs ys : List Int} (ra : RdC 1 g c a (xs.map byV)) (ha : a.n ≤ a.c) (hx : ∀ x ∈ xs, isByte x) (hl : xs.length ≤ 1000000000) (rb : RdC 1 g d b (ys.map byV)) (hy : ∀ y ∈ ys, isByte y) (h0 : 2 ≤ ys.length) (hl2 : ys.length ≤ 1000)
    {R : Value → Heap → Prop} (H : R (.bool (Lib.contains (Lib.bytesOf xs) (Lib.bytesOf ys))) g.h) : HC Try.prog F.bytes_Contains #[.slice a.a a.n a.c, .slice b.a b.n b.c] R g.h := by
  have hna := ra.len
  have hnb := rb.len
  rw [List.length_map] at hna hnb
  by_cases he : xs = []
  · subst he
    have hn0 : a.n = 0 := by simpa using hna
    have hfalse : Lib.contains (Lib.bytesOf []) (Lib.bytesOf ys) = false := by
      cases ys with
      | nil => simp at h0
      | cons y ys => rfl
    rw [hfalse] at H
    refine bytes_Contains.calls (b0 := a) (subslice1 := b) ?_
    unfold bytes_Contains.body
    refine bytes_Index.calls (s0 := a) (sep1 := b) ?_
    unfold bytes_Index.body
    rw [if_neg (by simp; omega), if_neg (by simp; omega), if_neg (by simp; omega), if_pos (by simp; omega)]
    exact ⟨-1, rfl, H⟩
  · have hp : 0 < xs.length := List.length_pos_iff.2 he
    obtain ⟨cells, e, fz, m, bm, _, hm⟩ := mx
    obtain ⟨aa, haa⟩ : ∃ aa, a.a = some aa := by
      rcases ra.rd.2 with h | ⟨b, o, cs, e, fz, ha', _⟩
      · simp at h; exact absurd h he
      · exact ⟨_, ha'⟩
    obtain ⟨bb, hbb⟩ : ∃ bb, b.a = some bb := by
      rcases rb.rd.2 with h | ⟨b, o, cs, e, fz, ha', _⟩
      · simp at h; subst h; simp at h0
      · exact ⟨_, ha'⟩
    rw [haa, hbb]
    refine ⟨fun w => enters_of (Try.laysM186).f186 (by kernel_rfl) rfl _ w, fun w hw => ?_⟩
    refine (Any.bytes_Contains_at { Try.laysM186 with } aa bb a.n a.c b.n b.c xs ys m w hna.symm hnb.symm (fun x h => ?_) (fun y h => ?_) (fun i hi => ?_) (fun i hi => ?_) ha (by omega) (by omega) ?_).mono fun e w' ⟨he, q, hq⟩ => ?_
    · have := hx x h; unfold isByte at this; omega
    · have := hy y h; unfold isByte at this; omega
    · rw [cellOf hw ra haa (by simp; omega)]
      have : i < xs.length := by omega
      simp [List.getElem?_eq_getElem this, List.getD_eq_getElem?_getD, byV]
    · rw [cellOf hw rb hbb (by simp; omega)]
      have : i < ys.length := by omega
      simp [List.getElem?_eq_getElem this, List.getD_eq_getElem?_getD, byV]
    · unfold World.cell?
      rw [hw]
      have bm' : g.h[(Try.laysM186_ren.g 1)]? = some (.cells cells e fz) := bm
      simp only [bm']
      simpa using hm
    · subst hq
      refine ⟨_, he, ⟨rfl, rfl, rfl⟩, ?_⟩
      have e1 : (w.drewN q).heap = g.h := hw
      rw [e1]
      exact H

def markT (xs : List Int) : Bool := Lib.contains (Lib.bytesOf xs) (Lib.bytesOf zugB)
theorem zugB_byte : ∀ x ∈ zugB, isByte x := by simp [zugB, isByte]
theorem tagsMark_spec {g : GH} {c k : Nat} (mx : MaxC g k) {a : Sl} {xs : List Int} (ra : RdC 1 g c a (xs.map byV)) (ha : a.n ≤ a.c) (hx : ∀ x ∈ xs, isByte x) (hl : xs.length ≤ 1000000000) {R : Value → Heap → Prop} (H : ∀ g' : GH, Mv [] g g' → R (.bool (markT xs)) g'.h) :
    HC Try.prog F.tags_Mark #[.slice a.a a.n a.c] R g.h := by
  refine tags_Mark.calls (b0 := a) ?_
  unfold tags_Mark.body
  have mx0 := mx.base
  have m := Mv.refl [1] g.base
  refine newSl_C g.base 1 rfl fun s1 q1 m1 o1 hn1 hc1 => ?_
  replace m := m.step m1 (by simp)
  refine convRd (e := T.uint8) (by kernel_rfl) (by kernel_rfl) o1 (by simp) fun q2 m2 r2 k2 => ?_
  replace m := m.step m2 (by simp)
  have r2' : RdC 1 q2 1 s1 (zugB.map byV) := r2
  refine contains_spec (mx0.mv m (by simp)) (ra.arg m (by simp)) ha hx hl r2' zugB_byte (by decide) (by decide) ⟨_, rfl, ?_⟩
  exact H (g.via q2 fun _ => 0) (m.via (by simp) _)

theorem bytesOf_inj {xs ys : List Int} (hx : ∀ x ∈ xs, isByte x) (hy : ∀ y ∈ ys, isByte y) (h : Lib.bytesOf xs = Lib.bytesOf ys) : xs = ys := by
  induction xs generalizing ys with
  | nil =>
    cases ys with
    | nil => rfl
    | cons y ys => simp [Lib.bytesOf] at h
  | cons x xs ih =>
    cases ys with
    | nil => simp [Lib.bytesOf] at h
    | cons y ys =>
      simp only [Lib.bytesOf, List.map_cons, List.cons.injEq] at h
      have h1 := hx x (by simp)
      have h2 := hy y (by simp)
      unfold isByte at h1 h2
      have e1 : x = y := by
        have := congrArg UInt8.toNat h.1
        rw [UInt8.toNat_ofNat', UInt8.toNat_ofNat', Nat.mod_eq_of_lt (by omega), Nat.mod_eq_of_lt (by omega)] at this
        omega
      rw [e1, ih (fun z hz => hx z (by simp [hz])) (fun z hz => hy z (by simp [hz])) h.2]
/-- The mark stands at a place. -/
theorem markT_iff {xs : List Int} (hx : ∀ x ∈ xs, isByte x) : markT xs = true ↔ ∃ i, i + 8 ≤ xs.length ∧ (xs.drop i).take 8 = zugB := by
  have hz : (Lib.bytesOf zugB).length = 8 := rfl
  have hlen : (Lib.bytesOf xs).length = xs.length := by simp [Lib.bytesOf]
  have key : ∀ i, i + 8 ≤ xs.length → (Lib.occAt (Lib.bytesOf xs) (Lib.bytesOf zugB) i = true ↔ (xs.drop i).take 8 = zugB) := by
    intro i hi
    rw [Lib.occAt_iff_take _ _ _ (by rw [hz, hlen]; exact hi), beq_iff_eq, hz]
    have e : ((Lib.bytesOf xs).drop i).take 8 = Lib.bytesOf ((xs.drop i).take 8) := by simp [Lib.bytesOf, List.map_take, List.map_drop]
    rw [e]
    exact ⟨fun h => bytesOf_inj (fun x h => hx x (List.mem_of_mem_drop (List.mem_of_mem_take h))) zugB_byte h, fun h => by rw [h]⟩
  unfold markT Lib.contains
  rw [decide_eq_true_eq]
  constructor
  · intro h
    rcases Lib.index_spec (Lib.bytesOf xs) (Lib.bytesOf zugB) with ⟨h1, _⟩ | ⟨i, h1, h2, h3, _⟩
    · omega
    · have hr : i + 8 ≤ xs.length := by
        rcases Lib.occAt_room h3 with h | h
        · rw [hz, hlen] at h; exact h
        · cases h
      exact ⟨i, hr, (key i hr).1 h3⟩
  · rintro ⟨i, hi, h⟩
    rcases Lib.index_spec (Lib.bytesOf xs) (Lib.bytesOf zugB) with ⟨h1, h2⟩ | ⟨j, h1, _⟩
    · have := h2 i (by rw [hlen]; omega)
      rw [(key i hi).2 h] at this
      cases this
    · omega
end Go.Proofs.Ytijipdaofojbiaa
