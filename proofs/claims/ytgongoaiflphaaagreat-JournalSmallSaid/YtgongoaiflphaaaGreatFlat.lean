/-
  Data without slices: its cells, and when two such values are the same for the model. Nothing of a given program stands here.
-/
import Derived.Test.YtgongoaiflphaaaGreatLay
import Derived.DeepKeys
import Derived.Test.YtgongoaiflphaaaGreatBuild
import Derived.Test.YtgongoaiflphaaaGreatGrow
set_option linter.unusedSimpArgs false
set_option linter.unusedVariables false
namespace Go.Ev
open Go

def Sh.flat : Sh → Bool
  | .int _ => true
  | .bool => true
  | .str => true
  | .unit => true
  | .pair a b => a.flat && b.flat
  | .arr _ s => s.flat
  | .sl _ => false

/-- The cells of data. -/
def Sh.enc : (s : Sh) → s.T → List Value
  | .int k, n => [.int k n]
  | .bool, b => [.bool b]
  | .str, s => [.string s]
  | .unit, _ => []
  | .pair a b, x => a.enc x.1 ++ b.enc x.2
  | .arr _ s, xs => xs.flatMap s.enc
  | .sl _, _ => []

def Sh.ok : (s : Sh) → s.T → Prop
  | .int k, n => k.min ≤ n ∧ n ≤ k.max
  | .bool, _ => True
  | .str, s => s.size ≤ 140737488351232
  | .unit, _ => True
  | .pair a b, x => a.ok x.1 ∧ b.ok x.2
  | .arr n s, xs => xs.length = n ∧ ∀ x ∈ xs, s.ok x
  | .sl _, _ => True

theorem flatMap_len {α β : Type} {f : α → List β} {k : Nat} : ∀ {xs : List α}, (∀ x ∈ xs, (f x).length = k) → (xs.flatMap f).length = xs.length * k
  | [], _ => by simp
  | x :: xs, h => by
    rw [List.flatMap_cons, List.length_append, h x List.mem_cons_self, flatMap_len (fun y hy => h y (List.mem_cons_of_mem _ hy)), List.length_cons, Nat.succ_mul, Nat.add_comm]
theorem Sh.enc_length : ∀ {s : Sh}, s.flat = true → ∀ {x : s.T}, s.ok x → (s.enc x).length = s.size
  | .int _, _, _, _ => rfl
  | .bool, _, _, _ => rfl
  | .str, _, _, _ => rfl
  | .unit, _, _, _ => rfl
  | .pair a b, h, x, o => by
    simp only [Sh.flat, Bool.and_eq_true] at h
    simp only [Sh.enc, List.length_append, Sh.size]
    rw [Sh.enc_length h.1 o.1, Sh.enc_length h.2 o.2]
  | .arr n s, h, xs, o => by
    simp only [Sh.enc, Sh.size]
    rw [flatMap_len (fun x hx => Sh.enc_length (s := s) h (o.2 x hx)), o.1]

theorem flatMap_inj {α β : Type} {f : α → List β} {k : Nat} : ∀ {xs ys : List α}, xs.length = ys.length → (∀ x ∈ xs, (f x).length = k) → (∀ y ∈ ys, (f y).length = k) → (∀ x ∈ xs, ∀ y ∈ ys, f x = f y → x = y) → xs.flatMap f = ys.flatMap f → xs = ys
  | [], [], _, _, _, _, _ => rfl
  | [], y :: ys, h, _, _, _, _ => by simp at h
  | x :: xs, [], h, _, _, _, _ => by simp at h
  | x :: xs, y :: ys, h, h1, h2, hi, e => by
    rw [List.flatMap_cons, List.flatMap_cons] at e
    obtain ⟨e1, e2⟩ := List.append_inj e (by rw [h1 x List.mem_cons_self, h2 y List.mem_cons_self])
    rw [hi x List.mem_cons_self y List.mem_cons_self e1, flatMap_inj (by simpa using h) (fun z hz => h1 z (List.mem_cons_of_mem _ hz)) (fun z hz => h2 z (List.mem_cons_of_mem _ hz)) (fun a ha b hb => hi a (List.mem_cons_of_mem _ ha) b (List.mem_cons_of_mem _ hb)) e2]
theorem Sh.enc_inj : ∀ {s : Sh}, s.flat = true → ∀ {x y : s.T}, s.ok x → s.ok y → s.enc x = s.enc y → x = y
  | .int _, _, x, y, _, _, e => by simpa [Sh.enc] using e
  | .bool, _, x, y, _, _, e => by simpa [Sh.enc] using e
  | .str, _, x, y, _, _, e => by simpa [Sh.enc] using e
  | .unit, _, _, _, _, _, _ => rfl
  | .pair a b, h, x, y, ox, oy, e => by
    simp only [Sh.flat, Bool.and_eq_true] at h
    simp only [Sh.enc] at e
    obtain ⟨e1, e2⟩ := List.append_inj e (by rw [Sh.enc_length h.1 ox.1, Sh.enc_length h.1 oy.1])
    exact Prod.ext (Sh.enc_inj h.1 ox.1 oy.1 e1) (Sh.enc_inj h.2 ox.2 oy.2 e2)
  | .arr n s, h, xs, ys, ox, oy, e => flatMap_inj (k := s.size) (by rw [ox.1, oy.1]) (fun x hx => Sh.enc_length (s := s) h (ox.2 x hx)) (fun y hy => Sh.enc_length (s := s) h (oy.2 y hy)) (fun x hx y hy => Sh.enc_inj (s := s) h (ox.2 x hx) (oy.2 y hy)) e

/-- A flat argument is its cells. -/
theorem LayC.enc {g : GH} {c : Nat} : ∀ {s : Sh}, s.flat = true → ∀ {x : s.T} {cs : List Value}, LayC g c s x cs → cs = s.enc x ∧ s.ok x
  | .int _, _, _, _, l => l
  | .bool, _, _, _, l => ⟨l, trivial⟩
  | .str, _, _, _, l => l
  | .unit, _, _, _, l => ⟨l, trivial⟩
  | .pair a b, h, x, cs, ⟨c1, c2, e, l1, l2⟩ => by
    simp only [Sh.flat, Bool.and_eq_true] at h
    obtain ⟨e1, o1⟩ := LayC.enc h.1 l1
    obtain ⟨e2, o2⟩ := LayC.enc h.2 l2
    exact ⟨by rw [e, e1, e2]; rfl, o1, o2⟩
  | .arr n s, h, xs, cs, ⟨hn, css, e, hl, l⟩ => by
    have hx : ∀ i (hi : i < xs.length), css[i]? = some (s.enc xs[i]) ∧ s.ok xs[i] := fun i hi => by
      have := LayC.enc (s := s) h (l i _ _ (List.getElem?_eq_getElem hi) (List.getElem?_eq_getElem (show i < css.length by omega)))
      exact ⟨by rw [List.getElem?_eq_getElem (show i < css.length by omega), this.1], this.2⟩
    have hcss : css = xs.map s.enc := by
      apply List.ext_getElem?
      intro i
      by_cases hi : i < xs.length
      · rw [(hx i hi).1, List.getElem?_map, List.getElem?_eq_getElem hi]; rfl
      · rw [List.getElem?_eq_none (by omega), List.getElem?_eq_none (by simp; omega)]
    refine ⟨by rw [e, hcss]; rfl, hn, fun x hxm => ?_⟩
    obtain ⟨i, hi, rfl⟩ := List.mem_iff_getElem.1 hxm
    exact (hx i hi).2
theorem LayC.ofEnc {g : GH} {c : Nat} : ∀ {s : Sh}, s.flat = true → ∀ {x : s.T}, s.ok x → LayC g c s x (s.enc x)
  | .int _, _, _, o => ⟨rfl, o⟩
  | .bool, _, _, _ => rfl
  | .str, _, _, o => ⟨rfl, o⟩
  | .unit, _, _, _ => rfl
  | .pair a b, h, x, o => by
    simp only [Sh.flat, Bool.and_eq_true] at h
    exact ⟨_, _, rfl, LayC.ofEnc h.1 o.1, LayC.ofEnc h.2 o.2⟩
  | .arr n s, h, xs, o => ⟨o.1, xs.map s.enc, rfl, by simp [o.1], fun i x k h1 h2 => by
    rw [List.getElem?_map, h1] at h2
    simp at h2
    subst h2
    exact LayC.ofEnc (s := s) h (o.2 x (List.mem_of_getElem? h1))⟩

/-! ### Equality -/

def litV : Value → Lit
  | .int k n => .int k n
  | .bool b => .bool b
  | .string s => .string s.data.toList
  | _ => .bool false
def Sh.lits (s : Sh) (x : s.T) : List Lit := (s.enc x).map litV

theorem Sh.lits_inj : ∀ {s : Sh}, s.flat = true → ∀ {x y : s.T}, s.ok x → s.ok y → s.lits x = s.lits y → s.enc x = s.enc y
  | .int _, _, x, y, _, _, e => by simpa [Sh.enc, Sh.lits, litV] using e
  | .bool, _, x, y, _, _, e => by simpa [Sh.enc, Sh.lits, litV] using e
  | .str, _, x, y, _, _, e => by
    simp only [Sh.enc, Sh.lits, litV, List.map_cons, List.map_nil, List.cons.injEq, Lit.string.injEq, and_true] at e
    simp only [Sh.enc, List.cons.injEq, Value.string.injEq, and_true]
    have : x.data = y.data := Array.toList_inj.1 e
    cases x; cases y; simpa using this
  | .unit, _, _, _, _, _, _ => rfl
  | .pair a b, h, x, y, ox, oy, e => by
    simp only [Sh.flat, Bool.and_eq_true] at h
    simp only [Sh.lits, Sh.enc, List.map_append] at e
    obtain ⟨e1, e2⟩ := List.append_inj e (by rw [List.length_map, List.length_map, Sh.enc_length h.1 ox.1, Sh.enc_length h.1 oy.1])
    simp only [Sh.enc]
    rw [Sh.lits_inj h.1 ox.1 oy.1 e1, Sh.lits_inj h.2 ox.2 oy.2 e2]
  | .arr n s, h, xs, ys, ox, oy, e => by
    have key : ∀ (xs ys : List s.T), xs.length = ys.length → (∀ x ∈ xs, s.ok x) → (∀ y ∈ ys, s.ok y) → (xs.flatMap s.enc).map litV = (ys.flatMap s.enc).map litV → xs.flatMap s.enc = ys.flatMap s.enc := by
      intro xs
      induction xs with
      | nil => intro ys hl _ _ _; cases ys with
        | nil => rfl
        | cons y ys => simp at hl
      | cons x xs ih =>
        intro ys hl h1 h2 e
        cases ys with
        | nil => simp at hl
        | cons y ys =>
          rw [List.flatMap_cons, List.flatMap_cons, List.map_append, List.map_append] at e
          obtain ⟨e1, e2⟩ := List.append_inj e (by rw [List.length_map, List.length_map, Sh.enc_length (s := s) h (h1 x List.mem_cons_self), Sh.enc_length (s := s) h (h2 y List.mem_cons_self)])
          rw [List.flatMap_cons, List.flatMap_cons, Sh.lits_inj (s := s) h (h1 x List.mem_cons_self) (h2 y List.mem_cons_self) e1, ih ys (by simpa using hl) (fun z hz => h1 z (List.mem_cons_of_mem _ hz)) (fun z hz => h2 z (List.mem_cons_of_mem _ hz)) e2]
    exact key xs ys (by rw [ox.1, oy.1]) ox.2 oy.2 e

section
variable {P : Program}

theorem keyLits_enc (s : Sh) :
    (∀ (m : Nat) (t : TypeId) (x : s.T), s.flat = true → s.fit P (.inl t) = true → P.keyTypeAt m t = true → s.ok x → P.keyLits m t (s.enc x) = some (s.lits x)) ∧
    (∀ (m : Nat) (fs : List Field) (off : Nat) (pre : List Value) (x : s.T), s.flat = true → s.fit P (.inr (fs, off)) = true → (fs.all fun f => f.name != "_" && P.keyTypeAt m f.type) = true → s.ok x → pre.length = off →
      ∃ ls : List (List Lit), fs.mapM (fun f => P.keyLits m f.type (((pre ++ s.enc x).drop f.offset).take (P.cellsOf f.type))) = some ls ∧ ls.flatten = s.lits x) := by
  have mx : (140737488351232 : Nat) ≤ maxLen := by decide
  induction s with
  | int k =>
    refine ⟨fun m t x _ hf hk o => ?_, fun m fs off pre x _ hf => by simp [Sh.fit] at hf⟩
    simp only [Sh.fit] at hf
    split at hf
    · rename_i k' hu
      obtain rfl := of_decide_eq_true hf
      cases m with
      | zero => simp [Program.keyTypeAt] at hk
      | succ m =>
        have hw : (Lit.int k x).wf = true := by simp only [Lit.wf, Bool.and_eq_true, decide_eq_true_eq]; exact o
        simp [Program.keyLits, hu, Sh.enc, Sh.lits, litV, hw]
    · cases hf
  | bool =>
    refine ⟨fun m t x _ hf hk o => ?_, fun m fs off pre x _ hf => by simp [Sh.fit] at hf⟩
    simp only [Sh.fit] at hf
    split at hf
    · rename_i hu
      cases m with
      | zero => simp [Program.keyTypeAt] at hk
      | succ m => simp [Program.keyLits, hu, Sh.enc, Sh.lits, litV]
    · cases hf
  | str =>
    refine ⟨fun m t x _ hf hk o => ?_, fun m fs off pre x _ hf => by simp [Sh.fit] at hf⟩
    simp only [Sh.fit] at hf
    split at hf
    · rename_i hu
      cases m with
      | zero => simp [Program.keyTypeAt] at hk
      | succ m =>
        have : x.size ≤ maxLen := Nat.le_trans o mx
        simp [Program.keyLits, hu, Sh.enc, Sh.lits, litV, this]
    · cases hf
  | unit =>
    refine ⟨fun m t x _ hf => by simp [Sh.fit] at hf, fun m fs off pre x _ hf hk o hp => ?_⟩
    cases fs with
    | nil => exact ⟨[], by simp, rfl⟩
    | cons f r => simp [Sh.fit] at hf
  | pair a b iha ihb =>
    have fields : ∀ (m : Nat) (f : Field) (r : List Field) (off : Nat) (pre : List Value) (x : (Sh.pair a b).T), a.flat = true → b.flat = true → f.offset = off → a.fit P (.inl f.type) = true → P.cellsOf f.type = a.size → b.fit P (.inr (r, off + a.size)) = true →
        ((f :: r).all fun f => f.name != "_" && P.keyTypeAt m f.type) = true → (Sh.pair a b).ok x → pre.length = off →
        ∃ ls : List (List Lit), (f :: r).mapM (fun f => P.keyLits m f.type (((pre ++ (Sh.pair a b).enc x).drop f.offset).take (P.cellsOf f.type))) = some ls ∧ ls.flatten = (Sh.pair a b).lits x := by
      intro m f r off pre x fa fb ho ha hc hb hk o hp
      simp only [List.all_cons, Bool.and_eq_true] at hk
      have h1 := iha.1 m f.type x.1 fa ha hk.1.2 o.1
      have hlen := Sh.enc_length fa o.1
      obtain ⟨ls, h2, h3⟩ := ihb.2 m r (off + a.size) (pre ++ a.enc x.1) x.2 fb hb hk.2 o.2 (by rw [List.length_append, hp, hlen])
      refine ⟨a.lits x.1 :: ls, ?_, ?_⟩
      · rw [List.mapM_cons]
        have e1 : (((pre ++ (Sh.pair a b).enc x).drop f.offset).take (P.cellsOf f.type)) = a.enc x.1 := by
          rw [ho, ← hp, List.drop_left, hc, ← hlen]
          simp only [Sh.enc]
          rw [List.take_left]
        rw [e1, h1]
        have e2 : pre ++ (Sh.pair a b).enc x = (pre ++ a.enc x.1) ++ b.enc x.2 := by simp [Sh.enc]
        rw [e2, h2]
        rfl
      · rw [List.flatten_cons, h3]; simp [Sh.lits, Sh.enc]
    refine ⟨fun m t x fl hf hk o => ?_, fun m fs off pre x fl hf hk o hp => ?_⟩
    · simp only [Sh.flat, Bool.and_eq_true] at fl
      have hlen : ((Sh.pair a b).enc x).length = a.size + b.size := Sh.enc_length (s := .pair a b) (by simp [Sh.flat, fl]) o
      simp only [Sh.fit] at hf
      split at hf
      · rename_i fs hu
        split at hf
        · rename_i f r hfs
          simp only [Bool.and_eq_true, decide_eq_true_eq] at hf
          obtain ⟨⟨⟨⟨ho, ha⟩, hc⟩, hb⟩, hct⟩ := hf
          cases m with
          | zero => simp [Program.keyTypeAt] at hk
          | succ m =>
            simp only [Program.keyTypeAt, hu, Bool.and_eq_true] at hk
            have hk' : ((f :: r).all fun f => f.name != "_" && P.keyTypeAt m f.type) = true := by
              rw [← hfs]
              simpa using hk.1.1
            obtain ⟨ls, h2, h3⟩ := fields m f r 0 [] x fl.1 fl.2 ho ha hc (by simpa using hb) hk' o rfl
            have hnm : fs.all (fun f => f.name != "_") = true := by
              rw [← Array.all_toList, hfs]
              rw [List.all_eq_true] at hk' ⊢
              intro g hg
              have := hk' g hg
              simp only [Bool.and_eq_true] at this
              exact this.1
            simp only [Program.keyLits, hu]
            rw [if_pos ⟨by rw [hct, hlen], hnm⟩, hfs]
            simp only [List.nil_append] at h2
            rw [h2]
            simp [h3]
        · cases hf
      · cases hf
    · simp only [Sh.flat, Bool.and_eq_true] at fl
      cases fs with
      | nil => simp [Sh.fit] at hf
      | cons f r =>
        simp only [Sh.fit, Bool.and_eq_true, decide_eq_true_eq] at hf
        obtain ⟨⟨⟨ho, ha⟩, hc⟩, hb⟩ := hf
        exact fields m f r off pre x fl.1 fl.2 ho ha hc hb hk o hp
  | arr n s ih =>
    refine ⟨fun m t xs fl hf hk o => ?_, fun m fs off pre x _ hf => by simp [Sh.fit] at hf⟩
    have hlen : ((Sh.arr n s).enc xs).length = n * s.size := Sh.enc_length (s := .arr n s) fl o
    simp only [Sh.fit] at hf
    split at hf
    · rename_i k e hu
      simp only [Bool.and_eq_true, decide_eq_true_eq] at hf
      obtain ⟨⟨⟨rfl, he⟩, hc⟩, hct⟩ := hf
      cases m with
      | zero => simp [Program.keyTypeAt] at hk
      | succ m =>
        simp only [Program.keyTypeAt, hu] at hk
        simp only [Program.keyLits, hu]
        rw [if_pos (by rw [hct, hlen])]
        have key : ∀ (ys : List s.T) (pre : List Value) (q : Nat), (∀ y ∈ ys, s.ok y) → pre.length = q * s.size →
            ((List.range' q ys.length).mapM fun i => P.keyLits m e (((pre ++ ys.flatMap s.enc).drop (i * P.cellsOf e)).take (P.cellsOf e))) = some (ys.map s.lits) := by
          intro ys
          induction ys with
          | nil => intro pre q _ _; rfl
          | cons y ys ihy =>
            intro pre q hy hp
            have hyl := Sh.enc_length (s := s) fl (hy y List.mem_cons_self)
            rw [List.length_cons, List.range'_succ, List.mapM_cons]
            have e1 : (((pre ++ (y :: ys).flatMap s.enc).drop (q * P.cellsOf e)).take (P.cellsOf e)) = s.enc y := by
              rw [hc, ← hp, List.drop_left, List.flatMap_cons, ← hyl, List.take_left]
            rw [e1, ih.1 m e y fl he hk (hy y List.mem_cons_self)]
            have e2 : pre ++ (y :: ys).flatMap s.enc = (pre ++ s.enc y) ++ ys.flatMap s.enc := by simp [List.flatMap_cons]
            rw [e2, ihy (pre ++ s.enc y) (q + 1) (fun z hz => hy z (List.mem_cons_of_mem _ hz)) (by rw [List.length_append, hp, hyl, Nat.succ_mul])]
            rfl
        have := key xs [] 0 o.2 (by simp)
        rw [o.1, ← List.range_eq_range'] at this
        simp only [List.nil_append] at this
        have e3 : (Sh.arr k s).enc xs = xs.flatMap s.enc := rfl
        rw [e3, this]
        simp only [Option.map_some, Option.some.injEq]
        show (xs.map s.lits).flatten = (xs.flatMap s.enc).map litV
        rw [List.map_flatMap]
        rfl
    · cases hf
  | sl s ih => exact ⟨fun m t x fl => by simp [Sh.flat] at fl, fun m fs off pre x fl => by simp [Sh.flat] at fl⟩

end
end Go.Ev

/-!
  Rows of flat data: read, owned, grown, written. Nothing of a given program stands here.
-/
namespace Go.Ev
open Go

section
variable {P : Program}

theorem OwnC.grow {e : TypeId} {sz : Nat} {g : GH} {c : Nat} {s : Sl} {vs : List Value} (r : OwnC e sz g c s vs) {m : Nat} (hm : m ≤ s.c) : ∃ ws, OwnC e sz g c ⟨s.a, m, s.c⟩ ws := by
  rcases r.own.2.2 with ⟨ha, hc⟩ | ⟨b, o, cs, ha, hb, hroom, hcs⟩
  · exact ⟨[], ⟨by have : m = 0 := by omega
                   simp [this], hm, .inl ⟨ha, hc⟩⟩, r.col⟩
  · have hmc : m * sz ≤ s.c * sz := Nat.mul_le_mul_right _ hm
    have hl : ((cs.toList.drop o).take (m * sz)).length = m * sz := by
      rw [List.length_take, List.length_drop, Array.length_toList]; omega
    refine ⟨(cs.toList.drop o).take (m * sz), ⟨hl, hm, .inr ⟨b, o, cs, ha, hb, hroom, fun j hj => ?_⟩⟩, r.col⟩
    rw [hl] at hj
    rw [List.getElem?_take_of_lt hj, List.getElem?_drop, Array.getElem?_toList]
end

end Go.Ev
