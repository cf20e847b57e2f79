/-
  More of memory: make, slices of slices, rows lent.
-/
import Derived.Test.YtgggpnjjkcfckaaMem
set_option linter.unusedSimpArgs false
set_option linter.unusedVariables false
namespace Go.Ev
open Go

section
variable {P : Program}

/-- 'make([]T, l, c)', an element being one cell. -/
theorem make_rule {e t : TypeId} {by_ : Nat} {z : Value} (ht : P.underlying t = some (.slice e)) (hi : (P.info? e).map (fun i => (i.zero, i.size, i.bytes)) = some (some z, 1, by_)) (hzs : z.cells = #[z]) (hby : by_ ≤ 4096)
    {l c : Nat} {kl kc : IntKind} (hlc : l ≤ c) (hc : c ≤ 1000000000) {K : Sl → Heap → Prop} {h : Heap}
    (hK : K ⟨some ⟨h.size, 0, none⟩, l, c⟩ (h.push (.cells (Array.replicate c z) e (0, 0)))) :
    opK P .slice (Instr.makeSlice t (.int kl (l : Int)) (.int kc (c : Int))) K h := by
  intro w hw
  subst hw
  cases hq : P.info? e with
  | none => rw [hq] at hi; cases hi
  | some i =>
    rw [hq] at hi
    simp only [Option.map_some, Option.some.injEq, Prod.mk.injEq] at hi
    obtain ⟨h1, h2, h3⟩ := hi
    refine ⟨⟨some ⟨w.heap.size, 0, none⟩, l, c⟩, { w with heap := w.heap.push (.cells (Array.replicate c z) e (0, 0)) }, ?_, ⟨rfl, rfl, rfl⟩, hK⟩
    have wl : IntKind.i64.wrap (l : Int) = (l : Int) := wrapI64 (by omega) (by omega)
    have wc : IntKind.i64.wrap (c : Int) = (c : Int) := wrapI64 (by omega) (by omega)
    have hbc : i.bytes * c ≤ 4096 * 1000000000 := Nat.mul_le_mul (by omega) hc
    have hbc' : ((i.bytes : Int) * (c : Int)) ≤ 4096000000000 := by rw [← Int.natCast_mul]; exact Int.ofNat_le.2 (by omega)
    have hask : ∀ n : Nat, (askRoom n).run P w = .ok () w := fun n => by unfold askRoom; split <;> simp [mark, Sem.run]
    unfold Instr.makeSlice
    simp only [Sem.run_bind, run_underlying ht, Result.andThen_ok, asInt, asIntOf, Sem.run_pure, run_typeInfo hq, wl, wc]
    have hc1 : (decide ((c : Int) < 0) || decide ((i.bytes : Int) * (c : Int) > 2 ^ 48)) = false := by
      have h1 : decide ((c : Int) < 0) = false := by simp
      have h48 : (2 : Int) ^ 48 = 281474976710656 := by decide
      have h2 : decide ((i.bytes : Int) * (c : Int) > 2 ^ 48) = false := decide_eq_false (by rw [h48]; omega)
      rw [h1, h2]; rfl
    have hc2 : decide ((l : Int) < 0) = false := by simp
    have hc3 : decide ((l : Int) > (c : Int)) = false := by simp; omega
    simp only [hc1, hc2, hc3, Bool.false_or, Bool.or_false, Bool.false_eq_true, if_false, hask, Sem.run_bind, Sem.run_pure, Result.andThen_ok, Int.toNat_natCast]
    have hsize : (sizeOf e).run P w = .ok 1 w := by simp [sizeOf, run_typeInfo hq, h2]
    have hzv : (zeroValue e).run P w = .ok z w := by simp [zeroValue, run_typeInfo hq, h1]
    simp only [hsize, Result.andThen_ok, Nat.mul_one]
    by_cases h0 : c = 0
    · subst h0
      have hr0 : (Array.range 0).map (fun _ : Nat => (default : Value)) = #[] := by apply Array.ext <;> simp
      simp [newRow, newObj, Sem.run, Kd.inj, hr0]
    · simp only [h0, if_false, Sem.run_bind, hzv, Result.andThen_ok, Sem.run_pure, hzs]
      have hrow : (Array.range c).map (fun x => (#[z] : Array Value)[x % (#[z] : Array Value).size]!) = Array.replicate c z := by
        apply Array.ext
        · simp
        · intro j hj1 hj2
          simp [Nat.mod_one]
      simp only [hrow, newRow, newObj, Sem.run, Sem.run_bind, Result.andThen_ok, Sem.run_pure, Kd.inj]

end

/-! ### Slices of slices -/

/-- A slice that lies plainly in a block, or nowhere. -/
def Sl.plain (s : Sl) : Prop := s.a = none ∨ ∃ b o, s.a = some ⟨b, o, none⟩

theorem map_add_zero {s : Sl} (hp : s.plain) (k : Nat) : s.a.map (·.add (0 * k)) = s.a := by
  rcases hp with h | ⟨b, o, h⟩ <;> simp [h, addr_add]

theorem slice_to {s : Sl} {i : Int} {n sz : Nat} {K : Sl → Prop} (hp : s.plain) (hi : i = (n : Int)) (hn : n ≤ s.c) (hK : K ⟨s.a, n, s.c⟩) : sliceK s none (some i) none sz K := by
  refine ⟨0, n, s.c, rfl, ⟨hi, hn⟩, rfl, ?_⟩
  rw [map_add_zero hp, ite_self]
  exact hK

theorem Rd.plain {sz : Nat} {h : Heap} {s : Sl} {vs : List Value} (r : Rd sz h s vs) (hne : vs ≠ []) : s.plain := by
  rcases r.2 with h0 | ⟨b, o, _, _, _, ha, _⟩
  · exact absurd h0 hne
  · exact .inr ⟨b, o, ha⟩
theorem Own.plain {e : TypeId} {sz : Nat} {h : Heap} {s : Sl} {vs : List Value} (r : Own e sz h s vs) : s.plain := by
  rcases r.2.2 with ⟨ha, _⟩ | ⟨b, o, c, ha, _⟩
  · exact .inl ha
  · exact .inr ⟨b, o, ha⟩

/-- The first n of a slice. -/
theorem Rd.take {h : Heap} {s : Sl} {vs : List Value} (r : Rd 1 h s vs) {n c : Nat} (hn : n ≤ vs.length) : Rd 1 h ⟨s.a, n, c⟩ (vs.take n) := by
  refine ⟨by simp [Nat.min_eq_left hn], ?_⟩
  rcases r.2 with h0 | ⟨b, o, cs, e, fz, ha, hb, hc⟩
  · subst h0; simp at hn; exact .inl (by simp)
  · refine .inr ⟨b, o, cs, e, fz, ha, hb, fun i hi => ?_⟩
    rw [List.length_take, Nat.min_eq_left hn] at hi
    rw [hc i (by omega), List.getElem?_take_of_lt hi]

/-- What is left behind the first n. -/
theorem Rd.drop {h : Heap} {s : Sl} {vs : List Value} (r : Rd 1 h s vs) {n c sz : Nat} (hsz : sz = 1) (hn : n ≤ vs.length) (hcap : s.n ≤ s.c) :
    Rd 1 h ⟨if s.c = n then s.a else s.a.map (·.add (n * sz)), s.n - n, s.c - n⟩ (vs.drop n) := by
  subst hsz
  have hl := r.len
  refine ⟨by simp [hl], ?_⟩
  rcases r.2 with h0 | ⟨b, o, cs, e, fz, ha, hb, hc⟩
  · subst h0; exact .inl (by simp)
  · by_cases hcn : s.c = n
    · left; apply List.drop_eq_nil_of_le; omega
    · right
      refine ⟨b, o + n, cs, e, fz, by simp [hcn, ha, addr_add], hb, fun i hi => ?_⟩
      rw [List.length_drop] at hi
      rw [List.getElem?_drop, Nat.add_assoc, hc (n + i) (by omega)]


/-- An owned row, seen up to another place in its room. -/
theorem Own.grow {e : TypeId} {h : Heap} {s : Sl} {vs : List Value} (r : Own e 1 h s vs) {m : Nat} (hm : m ≤ s.c) : ∃ ws, Own e 1 h ⟨s.a, m, s.c⟩ ws := by
  rcases r.2.2 with ⟨ha, hc⟩ | ⟨b, o, c, ha, hb, hroom, hc⟩
  · refine ⟨[], ?_, hm, .inl ⟨ha, hc⟩⟩
    simp; omega
  · refine ⟨(c.toList.drop o).take m, ?_, hm, .inr ⟨b, o, c, ha, hb, hroom, ?_⟩⟩
    · simp; omega
    · intro i hi
      rw [List.length_take] at hi
      rw [List.getElem?_take_of_lt (by omega), List.getElem?_drop, Array.getElem?_toList]

/-- An element of an owned row is written. -/
theorem idxStoreN {e : TypeId} {sz : Nat} {h : Heap} {s : Sl} {vs : List Value} {i : Nat} {v : Value} {K : Heap → Prop} (r : Own e 1 h s vs) (hsz : sz = 1) (hi : i < vs.length) (hv : v.oneCell' = true)
    (hK : ∀ h', Own e 1 h' s (vs.set i v) → Frm (fun b => s.blk = some b) h h' → h'.size = h.size → K h') : idxK s (i : Int) sz (fun a => storeK h (some a) v K) := by
  subst hsz
  have hl := r.rd.len
  rcases r.2.2 with ⟨ha, hc⟩ | ⟨b, o, c, ha, hb, hroom, hc⟩
  · have := r.2.1; omega
  · refine ⟨_, ha, ⟨by omega, by omega⟩, ?_⟩
    rw [Nat.mul_one, addr_add, Int.toNat_natCast]
    have hnc := r.2.1
    refine storeCell hb (by omega) hv ?_
    intro h' hb' hf hsz
    refine hK h' ⟨by simpa using r.1, r.2.1, .inr ⟨b, o, _, ha, hb', by simpa using hroom, ?_⟩⟩ (hf.mono fun j _ hj => by simp [Sl.blk, ha, hj]) hsz
    intro j hj
    rw [List.length_set] at hj
    rw [Array.getElem?_setIfInBounds, List.getElem?_set]
    by_cases hij : i = j
    · subst hij
      simp [hi]
      omega
    · rw [if_neg (by omega), if_neg hij, hc j hj]

/-- A slice of named elements. -/
theorem newSl_intro {h : Heap} {n : Nat} {cells : Array Value} {e : TypeId} {K : Sl → Heap → Prop} (hn : cells.size = n)
    (H : ∀ (s : Sl) (h' : Heap), Own e 1 h' s cells.toList → s.n = n → s.c = n → Ext h h' → s.blk = some h.size → K s h') : newSlK h n cells e K :=
  H _ _ (Own.new h cells e n hn) rfl rfl (Ext.push _ _) rfl

/-! ### Rows lent: a row, and behind its end, in its room, marks -/

def Lent (e : TypeId) (h : Heap) (s : Sl) (vs ms : List Value) : Prop := s.n = vs.length ∧ Own e 1 h ⟨s.a, s.n + ms.length, s.c⟩ (vs ++ ms)

theorem Lent.all {e : TypeId} {h : Heap} {s : Sl} {vs ms : List Value} (r : Lent e h s vs ms) : Rd 1 h ⟨s.a, s.n + ms.length, s.c⟩ (vs ++ ms) := r.2.rd
theorem Lent.cap {e : TypeId} {h : Heap} {s : Sl} {vs ms : List Value} (r : Lent e h s vs ms) : s.n + ms.length ≤ s.c := r.2.2.1
theorem Lent.plain {e : TypeId} {h : Heap} {s : Sl} {vs ms : List Value} (r : Lent e h s vs ms) : s.plain := by
  rcases r.2.plain with h | ⟨b, o, h⟩
  · exact .inl h
  · exact .inr ⟨b, o, h⟩
theorem Lent.rd {e : TypeId} {h : Heap} {s : Sl} {vs ms : List Value} (r : Lent e h s vs ms) : Rd 1 h s vs := by
  have := r.all.take (n := s.n) (c := s.c) (by rw [r.1]; simp)
  rw [r.1, List.take_left] at this
  obtain ⟨a, n, c⟩ := s
  have hn := r.1
  dsimp only at hn this ⊢
  subst hn
  exact this
theorem Lent.frm {S : Nat → Prop} {e : TypeId} {h h' : Heap} {s : Sl} {vs ms : List Value} (r : Lent e h s vs ms) (f : Frm S h h') (hs : ∀ b, s.blk = some b → ¬ S b) : Lent e h' s vs ms := ⟨r.1, r.2.frm f hs⟩
theorem Lent.ext {e : TypeId} {h h' : Heap} {s : Sl} {vs ms : List Value} (r : Lent e h s vs ms) (f : Ext h h') : Lent e h' s vs ms := r.frm f fun _ _ x => x

end Go.Ev
