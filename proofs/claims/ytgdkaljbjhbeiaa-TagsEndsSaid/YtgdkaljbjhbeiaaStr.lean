/-
  Strings: pieces of them, their bytes as rows. Nothing of a given program stands here.
-/
import Derived.Test.YtgdkaljbjhbeiaaConv
set_option linter.unusedSimpArgs false
set_option linter.unusedVariables false
namespace Go.Ev
open Go

def strB (s : ByteArray) : List Int := s.data.toList.map fun b => (b.toNat : Int)
theorem strB_byte (s : ByteArray) : ∀ x ∈ strB s, 0 ≤ x ∧ x ≤ 255 := by
  intro x hx
  obtain ⟨b, _, rfl⟩ := List.mem_map.1 hx
  have := b.toNat_lt
  omega
theorem strB_len (s : ByteArray) : (strB s).length = s.size := by
  simp [strB]

theorem convStr_C {P : Program} {st t e : TypeId} (hs : P.underlying st = some .string) (hu : P.underlying t = some (.slice e)) (he : P.underlying e = some (.int .u8)) {g : GH} (c : Nat) (s : ByteArray) {K : Sl → Heap → Prop}
    (H : ∀ (v : Sl) (g' : GH), Mv [] g g' → RdC 1 g' c v ((strB s).map (.int .u8)) → v.n ≤ v.c → K v g'.h) : opK P .slice (convert st t (.string s)) K g.h := by
  intro w hw
  obtain ⟨gh, γ⟩ := g
  obtain rfl : w.heap = gh := hw
  let q := Question.appendCap s.size 0 e
  let cap := q.cut (w.tape w.drawn q)
  let w1 : World := { w with drawn := w.drawn + 1 }
  let cells : Array Value := (s.data.map fun b => Value.int .u8 b.toNat) ++ Array.replicate (cap - s.size) (.int .u8 0)
  have hcap : s.size ≤ cap := by simp only [cap, q, Question.cut]; omega
  let w2 : World := { w1 with heap := w.heap.push (.cells cells e (0, 0)) }
  obtain ⟨fz', hf⟩ := heap_freeze w2 { block := w.heap.size, off := cells.size } (h := w2.heap) rfl (push_last _ _)
  have hpush : w2.heap.setIfInBounds w.heap.size (.cells cells e fz') = w.heap.push (.cells cells e fz') := by
    apply Array.ext_getElem?
    intro i
    rw [Array.getElem?_setIfInBounds]
    by_cases h : w.heap.size = i
    · subst h
      simp [w2]
    · rw [if_neg h, Array.getElem?_push, Array.getElem?_push, if_neg (Ne.symm h), if_neg (Ne.symm h)]
  refine ⟨⟨some ⟨w.heap.size, 0, none⟩, s.size, cap⟩, w2.freeze { block := w.heap.size, off := cells.size } 1, ?_, ⟨rfl, rfl, rfl⟩, ?_⟩
  · have hch : (choose (.appendCap s.size 0 e)).run P w = .ok cap w1 := by simp [choose, Sem.run, Question.forced, cap, q, w1]
    have hsh : (shape w.heap.size).run P w2 = .ok (some (e, cells.size)) w2 := by
      have : w2.heap[w.heap.size]? = some (.cells cells e (0, 0)) := push_last _ _
      simp only [shape, Sem.run, World.shape?, this]
    have hnew : (newRow e cells).run P w1 = .ok ⟨w.heap.size, 0, none⟩ w2 := by simp [newRow, newObj, Sem.run, w1, w2]; exact ⟨rfl, rfl, rfl⟩
    unfold convert Conv.stringToBytes
    simp only [Sem.run_bind, run_underlying hs, run_underlying hu, run_underlying he, Result.andThen_ok, hch]
    show (((newRow e cells).run P w1).andThen _) = _
    rw [hnew]
    simp only [Result.andThen_ok, markStringish, Sem.run_bind, hsh, freeze, Sem.run, Sem.run_pure, Kd.inj]
  · rw [hf, hpush]
    refine H _ (GH.to ⟨w.heap, γ⟩ (w.heap.push (.cells cells e fz')) c) (GH.to_ext c (Ext.push _ _)) ⟨⟨?_, .inr ⟨w.heap.size, 0, cells, e, fz', rfl, push_last _ _, fun i hi => ?_⟩⟩, .inr ⟨w.heap.size, rfl, ?_, GH.to_new _ _ _ _ (Nat.le_refl _)⟩⟩ hcap
    · simp [strB_len]
    · simp only [List.length_map] at hi
      rw [strB_len] at hi
      simp only [cells, Nat.zero_add]
      rw [Array.getElem?_append_left (by rw [Array.size_map]; exact hi)]
      simp [strB]
      cases s.data[i]? <;> rfl
    · show w.heap.size < (w.heap.push _).size
      simp

theorem strTo_C {P : Program} {st : TypeId} (hs : P.underlying st = some .string) {s : ByteArray} {n : Nat} (hn : n ≤ s.size) {h : Heap} {K : ByteArray → Prop} (H : K (s.extract 0 n)) :
    quietK P .str (Instr.sliceAt st (.string s) none (some (.int .i64 (n : Int))) none) K h := by
  refine ⟨s.extract 0 n, fun w hw => ?_, H⟩
  unfold Instr.sliceAt Instr.slice Instr.sliceBounds Instr.sliceBound asIntOf
  simp only [Sem.run_bind, run_underlying hs, Result.andThen_ok, Sem.run_pure, Option.isSome_none, Bool.false_eq_true, if_false]
  rw [if_pos (by omega)]
  simp [Sem.run_pure, Sem.run_bind, Kd.inj]
theorem strFrom_C {P : Program} {st : TypeId} (hs : P.underlying st = some .string) {s : ByteArray} {n : Nat} (hn : n ≤ s.size) {h : Heap} {K : ByteArray → Prop} (H : K (s.extract n s.size)) :
    quietK P .str (Instr.sliceAt st (.string s) (some (.int .i64 (n : Int))) none none) K h := by
  refine ⟨s.extract n s.size, fun w hw => ?_, H⟩
  unfold Instr.sliceAt Instr.slice Instr.sliceBounds Instr.sliceBound asIntOf
  simp only [Sem.run_bind, run_underlying hs, Result.andThen_ok, Sem.run_pure, Option.isSome_none, Bool.false_eq_true, if_false]
  rw [if_pos (by omega)]
  simp [Sem.run_pure, Sem.run_bind, Kd.inj]

theorem RdC.dropN {g : GH} {c sz l m : Nat} {v : Sl} {vs : List Value} (r : RdC sz g c v vs) (hl : l ≤ v.n) (hc : v.n ≤ v.c) (h0 : 0 < sz) : RdC sz g c ⟨if v.c = l then v.a else v.a.map (·.add (l * sz)), v.n - l, m⟩ (vs.drop (l * sz)) := by
  have hlen := r.rd.1
  have hsub : (v.n - l) * sz = v.n * sz - l * sz := Nat.sub_mul _ _ _
  by_cases heq : v.n = l
  · have : vs.drop (l * sz) = [] := List.drop_eq_nil_of_le (by rw [hlen, heq]; exact Nat.le_refl _)
    rw [this, heq, Nat.sub_self]
    exact RdC.nil _ _ _ _ _
  · have hlt : l * sz + sz ≤ v.n * sz := by
      have := Nat.mul_le_mul_right sz (show l + 1 ≤ v.n by omega)
      rwa [Nat.succ_mul] at this
    rcases r.rd.2 with e | ⟨b, o, y, e, fz, ha, hb, hy⟩
    · rw [e] at hlen; simp at hlen; omega
    rcases r.col with e' | ⟨b', hb', hlt', hγ⟩
    · rw [e'] at hlen; simp at hlen; omega
    have hbb : b = b' := by simp [Sl.blk, ha] at hb'; exact hb'
    subst hbb
    have hvc : ¬ v.c = l := by omega
    refine ⟨⟨?_, .inr ⟨b, o + l * sz, y, e, fz, by simp [hvc, ha, addr_add], hb, fun i hi => ?_⟩⟩, .inr ⟨b, by simp [Sl.blk, hvc, ha, addr_add], hlt', hγ⟩⟩
    · rw [List.length_drop, hlen]; exact hsub.symm
    · rw [List.length_drop] at hi
      rw [List.getElem?_drop, Nat.add_assoc]
      exact hy _ (by omega)

theorem flatten_drop {α : Type} {k : Nat} : ∀ {css : List (List α)} (n : Nat), (∀ cs ∈ css, cs.length = k) → (css.drop n).flatten = css.flatten.drop (n * k)
  | [], n, _ => by simp
  | c :: css, 0, _ => by simp
  | c :: css, n + 1, h => by
    have hc := h c (by simp)
    rw [List.drop_succ_cons, flatten_drop n fun x hx => h x (by simp [hx]), List.flatten_cons, show (n + 1) * k = k + n * k from by rw [Nat.succ_mul]; omega, ← List.drop_drop, List.drop_left' hc]

theorem SlC.drop {g : GH} {c : Nat} {s : Sh} {v : Sl} {xs : List s.T} (r : SlC g c s v xs) {l sz : Nat} (hsz : sz = s.size) (h0 : 0 < s.size) (hl : l ≤ xs.length) : SlC g c s ⟨if v.c = l then v.a else v.a.map (·.add (l * sz)), v.n - l, v.c - l⟩ (xs.drop l) := by
  subst hsz
  obtain ⟨v', css, e, hcap, h2, h3, h4, rd, lay⟩ := r
  obtain rfl := slV_inj (by simpa using e)
  have hlen : ∀ cs ∈ css, cs.length = s.size := by
    intro cs hcs
    obtain ⟨i, hi, rfl⟩ := List.mem_iff_getElem.1 hcs
    exact LayC.length (lay i (xs[i]'(by omega)) _ (List.getElem?_eq_getElem _) (List.getElem?_eq_getElem _))
  refine .of (css.drop l) (by show v.n - l ≤ v.c - l; omega) (by simp; omega) (by simp; omega) (by show v.n - l ≤ _; omega) ?_ fun i x k h1 h2 => ?_
  · rw [flatten_drop l hlen]
    exact rd.dropN (by omega) hcap h0
  · rw [List.getElem?_drop] at h1 h2
    exact lay _ _ _ h1 h2

end Go.Ev
