/-
  Data without slices: its cells, and when two such values are the same for the model. Nothing of a given program stands here.
-/
import Derived.Test.YtijipdaofojbiaaLay
import Derived.DeepKeys
import Derived.Test.YtijipdaofojbiaaBuild
import Derived.Test.YtijipdaofojbiaaGrow
set_option linter.unusedSimpArgs false
set_option linter.unusedVariables false
namespace Go.Ev
open Go

def Sh.flat : Sh → Bool
  | .int _ => true
  | .bool => true
  | .str => true
  | .unit => true
  | .pair a b => a.flat && b.flat
  | .arr _ s => s.flat
  | .sl _ => false

/-- The cells of data. -/
def Sh.enc : (s : Sh) → s.T → List Value
  | .int k, n => [.int k n]
  | .bool, b => [.bool b]
  | .str, s => [.string s]
  | .unit, _ => []
  | .pair a b, x => a.enc x.1 ++ b.enc x.2
  | .arr _ s, xs => xs.flatMap s.enc
  | .sl _, _ => []

def Sh.ok : (s : Sh) → s.T → Prop
  | .int k, n => k.min ≤ n ∧ n ≤ k.max
  | .bool, _ => True
  | .str, s => s.size ≤ 140737488351232
  | .unit, _ => True
  | .pair a b, x => a.ok x.1 ∧ b.ok x.2
  | .arr n s, xs => xs.length = n ∧ ∀ x ∈ xs, s.ok x
  | .sl _, _ => True

theorem flatMap_len {α β : Type} {f : α → List β} {k : Nat} : ∀ {xs : List α}, (∀ x ∈ xs, (f x).length = k) → (xs.flatMap f).length = xs.length * k
  | [], _ => by simp
  | x :: xs, h => by
    rw [List.flatMap_cons, List.length_append, h x List.mem_cons_self, flatMap_len (fun y hy => h y (List.mem_cons_of_mem _ hy)), List.length_cons, Nat.succ_mul, Nat.add_comm]
theorem Sh.enc_length : ∀ {s : Sh}, s.flat = true → ∀ {x : s.T}, s.ok x → (s.enc x).length = s.size
  | .int _, _, _, _ => rfl
  | .bool, _, _, _ => rfl
  | .str, _, _, _ => rfl
  | .unit, _, _, _ => rfl
  | .pair a b, h, x, o => by
    simp only [Sh.flat, Bool.and_eq_true] at h
    simp only [Sh.enc, List.length_append, Sh.size]
    rw [Sh.enc_length h.1 o.1, Sh.enc_length h.2 o.2]
  | .arr n s, h, xs, o => by
    simp only [Sh.enc, Sh.size]
    rw [flatMap_len (fun x hx => Sh.enc_length (s := s) h (o.2 x hx)), o.1]

theorem flatMap_inj {α β : Type} {f : α → List β} {k : Nat} : ∀ {xs ys : List α}, xs.length = ys.length → (∀ x ∈ xs, (f x).length = k) → (∀ y ∈ ys, (f y).length = k) → (∀ x ∈ xs, ∀ y ∈ ys, f x = f y → x = y) → xs.flatMap f = ys.flatMap f → xs = ys
  | [], [], _, _, _, _, _ => rfl
  | [], y :: ys, h, _, _, _, _ => by simp at h
  | x :: xs, [], h, _, _, _, _ => by simp at h
  | x :: xs, y :: ys, h, h1, h2, hi, e => by
    rw [List.flatMap_cons, List.flatMap_cons] at e
    obtain ⟨e1, e2⟩ := List.append_inj e (by rw [h1 x List.mem_cons_self, h2 y List.mem_cons_self])
    rw [hi x List.mem_cons_self y List.mem_cons_self e1, flatMap_inj (by simpa using h) (fun z hz => h1 z (List.mem_cons_of_mem _ hz)) (fun z hz => h2 z (List.mem_cons_of_mem _ hz)) (fun a ha b hb => hi a (List.mem_cons_of_mem _ ha) b (List.mem_cons_of_mem _ hb)) e2]
theorem Sh.enc_inj : ∀ {s : Sh}, s.flat = true → ∀ {x y : s.T}, s.ok x → s.ok y → s.enc x = s.enc y → x = y
  | .int _, _, x, y, _, _, e => by simpa [Sh.enc] using e
  | .bool, _, x, y, _, _, e => by simpa [Sh.enc] using e
  | .str, _, x, y, _, _, e => by simpa [Sh.enc] using e
  | .unit, _, _, _, _, _, _ => rfl
  | .pair a b, h, x, y, ox, oy, e => by
    simp only [Sh.flat, Bool.and_eq_true] at h
    simp only [Sh.enc] at e
    obtain ⟨e1, e2⟩ := List.append_inj e (by rw [Sh.enc_length h.1 ox.1, Sh.enc_length h.1 oy.1])
    exact Prod.ext (Sh.enc_inj h.1 ox.1 oy.1 e1) (Sh.enc_inj h.2 ox.2 oy.2 e2)
  | .arr n s, h, xs, ys, ox, oy, e => flatMap_inj (k := s.size) (by rw [ox.1, oy.1]) (fun x hx => Sh.enc_length (s := s) h (ox.2 x hx)) (fun y hy => Sh.enc_length (s := s) h (oy.2 y hy)) (fun x hx y hy => Sh.enc_inj (s := s) h (ox.2 x hx) (oy.2 y hy)) e

/-- A flat argument is its cells. -/
theorem LayC.enc {g : GH} {c : Nat} : ∀ {s : Sh}, s.flat = true → ∀ {x : s.T} {cs : List Value}, LayC g c s x cs → cs = s.enc x ∧ s.ok x
  | .int _, _, _, _, l => l
  | .bool, _, _, _, l => ⟨l, trivial⟩
  | .str, _, _, _, l => l
  | .unit, _, _, _, l => ⟨l, trivial⟩
  | .pair a b, h, x, cs, ⟨c1, c2, e, l1, l2⟩ => by
    simp only [Sh.flat, Bool.and_eq_true] at h
    obtain ⟨e1, o1⟩ := LayC.enc h.1 l1
    obtain ⟨e2, o2⟩ := LayC.enc h.2 l2
    exact ⟨by rw [e, e1, e2]; rfl, o1, o2⟩
  | .arr n s, h, xs, cs, ⟨hn, css, e, hl, l⟩ => by
    have hx : ∀ i (hi : i < xs.length), css[i]? = some (s.enc xs[i]) ∧ s.ok xs[i] := fun i hi => by
      have := LayC.enc (s := s) h (l i _ _ (List.getElem?_eq_getElem hi) (List.getElem?_eq_getElem (show i < css.length by omega)))
      exact ⟨by rw [List.getElem?_eq_getElem (show i < css.length by omega), this.1], this.2⟩
    have hcss : css = xs.map s.enc := by
      apply List.ext_getElem?
      intro i
      by_cases hi : i < xs.length
      · rw [(hx i hi).1, List.getElem?_map, List.getElem?_eq_getElem hi]; rfl
      · rw [List.getElem?_eq_none (by omega), List.getElem?_eq_none (by simp; omega)]
    refine ⟨by rw [e, hcss]; rfl, hn, fun x hxm => ?_⟩
    obtain ⟨i, hi, rfl⟩ := List.mem_iff_getElem.1 hxm
    exact (hx i hi).2
theorem LayC.ofEnc {g : GH} {c : Nat} : ∀ {s : Sh}, s.flat = true → ∀ {x : s.T}, s.ok x → LayC g c s x (s.enc x)
  | .int _, _, _, o => ⟨rfl, o⟩
  | .bool, _, _, _ => rfl
  | .str, _, _, o => ⟨rfl, o⟩
  | .unit, _, _, _ => rfl
  | .pair a b, h, x, o => by
    simp only [Sh.flat, Bool.and_eq_true] at h
    exact ⟨_, _, rfl, LayC.ofEnc h.1 o.1, LayC.ofEnc h.2 o.2⟩
  | .arr n s, h, xs, o => ⟨o.1, xs.map s.enc, rfl, by simp [o.1], fun i x k h1 h2 => by
    rw [List.getElem?_map, h1] at h2
    simp at h2
    subst h2
    exact LayC.ofEnc (s := s) h (o.2 x (List.mem_of_getElem? h1))⟩

/-! ### Equality -/

def litV : Value → Lit
  | .int k n => .int k n
  | .bool b => .bool b
  | .string s => .string s.data.toList
  | _ => .bool false
def Sh.lits (s : Sh) (x : s.T) : List Lit := (s.enc x).map litV

theorem Sh.lits_inj : ∀ {s : Sh}, s.flat = true → ∀ {x y : s.T}, s.ok x → s.ok y → s.lits x = s.lits y → s.enc x = s.enc y
  | .int _, _, x, y, _, _, e => by simpa [Sh.enc, Sh.lits, litV] using e
  | .bool, _, x, y, _, _, e => by simpa [Sh.enc, Sh.lits, litV] using e
  | .str, _, x, y, _, _, e => by
    simp only [Sh.enc, Sh.lits, litV, List.map_cons, List.map_nil, List.cons.injEq, Lit.string.injEq, and_true] at e
    simp only [Sh.enc, List.cons.injEq, Value.string.injEq, and_true]
    have : x.data = y.data := Array.toList_inj.1 e
    cases x; cases y; simpa using this
  | .unit, _, _, _, _, _, _ => rfl
  | .pair a b, h, x, y, ox, oy, e => by
    simp only [Sh.flat, Bool.and_eq_true] at h
    simp only [Sh.lits, Sh.enc, List.map_append] at e
    obtain ⟨e1, e2⟩ := List.append_inj e (by rw [List.length_map, List.length_map, Sh.enc_length h.1 ox.1, Sh.enc_length h.1 oy.1])
    simp only [Sh.enc]
    rw [Sh.lits_inj h.1 ox.1 oy.1 e1, Sh.lits_inj h.2 ox.2 oy.2 e2]
  | .arr n s, h, xs, ys, ox, oy, e => by
    have key : ∀ (xs ys : List s.T), xs.length = ys.length → (∀ x ∈ xs, s.ok x) → (∀ y ∈ ys, s.ok y) → (xs.flatMap s.enc).map litV = (ys.flatMap s.enc).map litV → xs.flatMap s.enc = ys.flatMap s.enc := by
      intro xs
      induction xs with
      | nil => intro ys hl _ _ _; cases ys with
        | nil => rfl
        | cons y ys => simp at hl
      | cons x xs ih =>
        intro ys hl h1 h2 e
        cases ys with
        | nil => simp at hl
        | cons y ys =>
          rw [List.flatMap_cons, List.flatMap_cons, List.map_append, List.map_append] at e
          obtain ⟨e1, e2⟩ := List.append_inj e (by rw [List.length_map, List.length_map, Sh.enc_length (s := s) h (h1 x List.mem_cons_self), Sh.enc_length (s := s) h (h2 y List.mem_cons_self)])
          rw [List.flatMap_cons, List.flatMap_cons, Sh.lits_inj (s := s) h (h1 x List.mem_cons_self) (h2 y List.mem_cons_self) e1, ih ys (by simpa using hl) (fun z hz => h1 z (List.mem_cons_of_mem _ hz)) (fun z hz => h2 z (List.mem_cons_of_mem _ hz)) e2]
    exact key xs ys (by rw [ox.1, oy.1]) ox.2 oy.2 e

section
variable {P : Program}

theorem keyLits_enc (s : Sh) :
    (∀ (m : Nat) (t : TypeId) (x : s.T), s.flat = true → s.fit P (.inl t) = true → P.keyTypeAt m t = true → s.ok x → P.keyLits m t (s.enc x) = some (s.lits x)) ∧
    (∀ (m : Nat) (fs : List Field) (off : Nat) (pre : List Value) (x : s.T), s.flat = true → s.fit P (.inr (fs, off)) = true → (fs.all fun f => f.name != "_" && P.keyTypeAt m f.type) = true → s.ok x → pre.length = off →
      ∃ ls : List (List Lit), fs.mapM (fun f => P.keyLits m f.type (((pre ++ s.enc x).drop f.offset).take (P.cellsOf f.type))) = some ls ∧ ls.flatten = s.lits x) := by
  have mx : (140737488351232 : Nat) ≤ maxLen := by decide
  induction s with
  | int k =>
    refine ⟨fun m t x _ hf hk o => ?_, fun m fs off pre x _ hf => by simp [Sh.fit] at hf⟩
    simp only [Sh.fit] at hf
    split at hf
    · rename_i k' hu
      obtain rfl := of_decide_eq_true hf
      cases m with
      | zero => simp [Program.keyTypeAt] at hk
      | succ m =>
        have hw : (Lit.int k x).wf = true := by simp only [Lit.wf, Bool.and_eq_true, decide_eq_true_eq]; exact o
        simp [Program.keyLits, hu, Sh.enc, Sh.lits, litV, hw]
    · cases hf
  | bool =>
    refine ⟨fun m t x _ hf hk o => ?_, fun m fs off pre x _ hf => by simp [Sh.fit] at hf⟩
    simp only [Sh.fit] at hf
    split at hf
    · rename_i hu
      cases m with
      | zero => simp [Program.keyTypeAt] at hk
      | succ m => simp [Program.keyLits, hu, Sh.enc, Sh.lits, litV]
    · cases hf
  | str =>
    refine ⟨fun m t x _ hf hk o => ?_, fun m fs off pre x _ hf => by simp [Sh.fit] at hf⟩
    simp only [Sh.fit] at hf
    split at hf
    · rename_i hu
      cases m with
      | zero => simp [Program.keyTypeAt] at hk
      | succ m =>
        have : x.size ≤ maxLen := Nat.le_trans o mx
        simp [Program.keyLits, hu, Sh.enc, Sh.lits, litV, this]
    · cases hf
  | unit =>
    refine ⟨fun m t x _ hf => by simp [Sh.fit] at hf, fun m fs off pre x _ hf hk o hp => ?_⟩
    cases fs with
    | nil => exact ⟨[], by simp, rfl⟩
    | cons f r => simp [Sh.fit] at hf
  | pair a b iha ihb =>
    have fields : ∀ (m : Nat) (f : Field) (r : List Field) (off : Nat) (pre : List Value) (x : (Sh.pair a b).T), a.flat = true → b.flat = true → f.offset = off → a.fit P (.inl f.type) = true → P.cellsOf f.type = a.size → b.fit P (.inr (r, off + a.size)) = true →
        ((f :: r).all fun f => f.name != "_" && P.keyTypeAt m f.type) = true → (Sh.pair a b).ok x → pre.length = off →
        ∃ ls : List (List Lit), (f :: r).mapM (fun f => P.keyLits m f.type (((pre ++ (Sh.pair a b).enc x).drop f.offset).take (P.cellsOf f.type))) = some ls ∧ ls.flatten = (Sh.pair a b).lits x := by
      intro m f r off pre x fa fb ho ha hc hb hk o hp
      simp only [List.all_cons, Bool.and_eq_true] at hk
      have h1 := iha.1 m f.type x.1 fa ha hk.1.2 o.1
      have hlen := Sh.enc_length fa o.1
      obtain ⟨ls, h2, h3⟩ := ihb.2 m r (off + a.size) (pre ++ a.enc x.1) x.2 fb hb hk.2 o.2 (by rw [List.length_append, hp, hlen])
      refine ⟨a.lits x.1 :: ls, ?_, ?_⟩
      · rw [List.mapM_cons]
        have e1 : (((pre ++ (Sh.pair a b).enc x).drop f.offset).take (P.cellsOf f.type)) = a.enc x.1 := by
          rw [ho, ← hp, List.drop_left, hc, ← hlen]
          simp only [Sh.enc]
          rw [List.take_left]
        rw [e1, h1]
        have e2 : pre ++ (Sh.pair a b).enc x = (pre ++ a.enc x.1) ++ b.enc x.2 := by simp [Sh.enc]
        rw [e2, h2]
        rfl
      · rw [List.flatten_cons, h3]; simp [Sh.lits, Sh.enc]
    refine ⟨fun m t x fl hf hk o => ?_, fun m fs off pre x fl hf hk o hp => ?_⟩
    · simp only [Sh.flat, Bool.and_eq_true] at fl
      have hlen : ((Sh.pair a b).enc x).length = a.size + b.size := Sh.enc_length (s := .pair a b) (by simp [Sh.flat, fl]) o
      simp only [Sh.fit] at hf
      split at hf
      · rename_i fs hu
        split at hf
        · rename_i f r hfs
          simp only [Bool.and_eq_true, decide_eq_true_eq] at hf
          obtain ⟨⟨⟨⟨ho, ha⟩, hc⟩, hb⟩, hct⟩ := hf
          cases m with
          | zero => simp [Program.keyTypeAt] at hk
          | succ m =>
            simp only [Program.keyTypeAt, hu, Bool.and_eq_true] at hk
            have hk' : ((f :: r).all fun f => f.name != "_" && P.keyTypeAt m f.type) = true := by
              rw [← hfs]
              simpa using hk.1.1
            obtain ⟨ls, h2, h3⟩ := fields m f r 0 [] x fl.1 fl.2 ho ha hc (by simpa using hb) hk' o rfl
            have hnm : fs.all (fun f => f.name != "_") = true := by
              rw [← Array.all_toList, hfs]
              rw [List.all_eq_true] at hk' ⊢
              intro g hg
              have := hk' g hg
              simp only [Bool.and_eq_true] at this
              exact this.1
            simp only [Program.keyLits, hu]
            rw [if_pos ⟨by rw [hct, hlen], hnm⟩, hfs]
            simp only [List.nil_append] at h2
            rw [h2]
            simp [h3]
        · cases hf
      · cases hf
    · simp only [Sh.flat, Bool.and_eq_true] at fl
      cases fs with
      | nil => simp [Sh.fit] at hf
      | cons f r =>
        simp only [Sh.fit, Bool.and_eq_true, decide_eq_true_eq] at hf
        obtain ⟨⟨⟨ho, ha⟩, hc⟩, hb⟩ := hf
        exact fields m f r off pre x fl.1 fl.2 ho ha hc hb hk o hp
  | arr n s ih =>
    refine ⟨fun m t xs fl hf hk o => ?_, fun m fs off pre x _ hf => by simp [Sh.fit] at hf⟩
    have hlen : ((Sh.arr n s).enc xs).length = n * s.size := Sh.enc_length (s := .arr n s) fl o
    simp only [Sh.fit] at hf
    split at hf
    · rename_i k e hu
      simp only [Bool.and_eq_true, decide_eq_true_eq] at hf
      obtain ⟨⟨⟨rfl, he⟩, hc⟩, hct⟩ := hf
      cases m with
      | zero => simp [Program.keyTypeAt] at hk
      | succ m =>
        simp only [Program.keyTypeAt, hu] at hk
        simp only [Program.keyLits, hu]
        rw [if_pos (by rw [hct, hlen])]
        have key : ∀ (ys : List s.T) (pre : List Value) (q : Nat), (∀ y ∈ ys, s.ok y) → pre.length = q * s.size →
            ((List.range' q ys.length).mapM fun i => P.keyLits m e (((pre ++ ys.flatMap s.enc).drop (i * P.cellsOf e)).take (P.cellsOf e))) = some (ys.map s.lits) := by
          intro ys
          induction ys with
          | nil => intro pre q _ _; rfl
          | cons y ys ihy =>
            intro pre q hy hp
            have hyl := Sh.enc_length (s := s) fl (hy y List.mem_cons_self)
            rw [List.length_cons, List.range'_succ, List.mapM_cons]
            have e1 : (((pre ++ (y :: ys).flatMap s.enc).drop (q * P.cellsOf e)).take (P.cellsOf e)) = s.enc y := by
              rw [hc, ← hp, List.drop_left, List.flatMap_cons, ← hyl, List.take_left]
            rw [e1, ih.1 m e y fl he hk (hy y List.mem_cons_self)]
            have e2 : pre ++ (y :: ys).flatMap s.enc = (pre ++ s.enc y) ++ ys.flatMap s.enc := by simp [List.flatMap_cons]
            rw [e2, ihy (pre ++ s.enc y) (q + 1) (fun z hz => hy z (List.mem_cons_of_mem _ hz)) (by rw [List.length_append, hp, hyl, Nat.succ_mul])]
            rfl
        have := key xs [] 0 o.2 (by simp)
        rw [o.1, ← List.range_eq_range'] at this
        simp only [List.nil_append] at this
        have e3 : (Sh.arr k s).enc xs = xs.flatMap s.enc := rfl
        rw [e3, this]
        simp only [Option.map_some, Option.some.injEq]
        show (xs.map s.lits).flatten = (xs.flatMap s.enc).map litV
        rw [List.map_flatMap]
        rfl
    · cases hf
  | sl s ih => exact ⟨fun m t x fl => by simp [Sh.flat] at fl, fun m fs off pre x fl => by simp [Sh.flat] at fl⟩

/-- Two values of many cells are held against each other. -/
theorem eqK_flat (s : Sh) {t : TypeId} {m : Nat} (hm : m ≤ 10000) {x y : s.T} {ox oy : Operand} (fl : s.flat = true) (hf : s.fit P (.inl t) = true) (hk : P.keyTypeAt m t = true) (hg : P.eqGuardType P.depth t = false) (hsz : P.cellsOf t = s.size)
    (hagg : (match P.underlying t with | some (.struct _) | some (.array _ _) => true | _ => false) = true) (okx : s.ok x) (oky : s.ok y) {K : Bool → Prop} :
    (∀ r : Bool, (r = true ↔ x = y) → K r) → eqK P (binSem .eql t ox oy (.agg ⟨s.enc x⟩) (.agg ⟨s.enc y⟩)) K := by
  intro hK
  have hE := run_equalIn_deep (P := P) (10000 - m) m t hk
  have fo : ∀ z : s.T, s.ok z → (Value.agg ⟨s.enc z⟩).formed P t = true := fun z oz => by
    have hl := Sh.enc_length fl oz
    simp only [Value.formed]
    split at hagg <;> first
      | (rename_i hu; rw [hu]; simp [hl, hsz])
      | cases hagg
  have hx := (keyLits_enc (P := P) s).1 m t x fl hf hk okx
  have hy := (keyLits_enc (P := P) s).1 m t y fl hf hk oky
  obtain ⟨r, hr⟩ : ∃ r : Bool, (r = true ↔ x = y) := by
    by_cases h : x = y
    · exact ⟨true, by simp [h]⟩
    · exact ⟨false, by simp [h]⟩
  refine ⟨r, fun w => ?_, hK r hr⟩
  obtain ⟨r', hr', hiff⟩ := hE w m m (.agg ⟨s.enc x⟩) (.agg ⟨s.enc y⟩) _ _ (fo x okx) (fo y oky) hx hy
  have : r' = r := by
    have h2 : r' = true ↔ x = y := hiff.trans ⟨fun e => Sh.enc_inj fl okx oky (Sh.lits_inj fl okx oky e), fun e => by rw [e]⟩
    cases r <;> cases r' <;> simp_all
  subst this
  have hd : 10000 - m + m = 10000 := by omega
  rw [hd] at hr'
  have hq : (Op.equal t (.agg ⟨s.enc x⟩) (.agg ⟨s.enc y⟩)).run P w = .ok r' w := hr'
  have hp : ∀ w : World, (program).run P w = .ok P w := fun w => by simp [program, Sem.run]
  unfold binSem eqGuard binOp
  simp only [Sem.run_bind, Sem.run_pure, Result.andThen_ok, hp, hg, hq, Bool.not_true, Bool.not_false, if_true, Bool.false_eq_true, if_false]


/-- .. and the other way. -/
theorem neqK_flat (s : Sh) {t : TypeId} {m : Nat} (hm : m ≤ 10000) {x y : s.T} {ox oy : Operand} (fl : s.flat = true) (hf : s.fit P (.inl t) = true) (hk : P.keyTypeAt m t = true) (hg : P.eqGuardType P.depth t = false) (hsz : P.cellsOf t = s.size)
    (hagg : (match P.underlying t with | some (.struct _) | some (.array _ _) => true | _ => false) = true) (okx : s.ok x) (oky : s.ok y) {K : Bool → Prop} :
    (∀ r : Bool, (r = true ↔ ¬ x = y) → K r) → eqK P (binSem .neq t ox oy (.agg ⟨s.enc x⟩) (.agg ⟨s.enc y⟩)) K := by
  intro hK
  have hE := run_equalIn_deep (P := P) (10000 - m) m t hk
  have fo : ∀ z : s.T, s.ok z → (Value.agg ⟨s.enc z⟩).formed P t = true := fun z oz => by
    have hl := Sh.enc_length fl oz
    simp only [Value.formed]
    split at hagg <;> first
      | (rename_i hu; rw [hu]; simp [hl, hsz])
      | cases hagg
  have hx := (keyLits_enc (P := P) s).1 m t x fl hf hk okx
  have hy := (keyLits_enc (P := P) s).1 m t y fl hf hk oky
  obtain ⟨r, hr⟩ : ∃ r : Bool, (r = true ↔ x = y) := by
    by_cases h : x = y
    · exact ⟨true, by simp [h]⟩
    · exact ⟨false, by simp [h]⟩
  refine ⟨!r, fun w => ?_, hK (!r) (by cases r <;> simp_all)⟩
  obtain ⟨r', hr', hiff⟩ := hE w m m (.agg ⟨s.enc x⟩) (.agg ⟨s.enc y⟩) _ _ (fo x okx) (fo y oky) hx hy
  have : r' = r := by
    have h2 : r' = true ↔ x = y := hiff.trans ⟨fun e => Sh.enc_inj fl okx oky (Sh.lits_inj fl okx oky e), fun e => by rw [e]⟩
    cases r <;> cases r' <;> simp_all
  subst this
  have hd : 10000 - m + m = 10000 := by omega
  rw [hd] at hr'
  have hq : (Op.equal t (.agg ⟨s.enc x⟩) (.agg ⟨s.enc y⟩)).run P w = .ok r' w := hr'
  have hp : ∀ w : World, (program).run P w = .ok P w := fun w => by simp [program, Sem.run]
  unfold binSem eqGuard binOp
  simp only [Sem.run_bind, Sem.run_pure, Result.andThen_ok, hp, hg, hq, Bool.not_true, Bool.not_false, if_true, Bool.false_eq_true, if_false]

end
end Go.Ev

/-!
  Rows of flat data: read, owned, grown, written. Nothing of a given program stands here.
-/
namespace Go.Ev
open Go

theorem Sh.enc_one : ∀ {s : Sh}, s.flat = true → ∀ {x : s.T}, ∀ v ∈ s.enc x, v.oneCell' = true
  | .int _, _, _, v, hv => by simp [Sh.enc] at hv; subst hv; rfl
  | .bool, _, _, v, hv => by simp [Sh.enc] at hv; subst hv; rfl
  | .str, _, _, v, hv => by simp [Sh.enc] at hv; subst hv; rfl
  | .unit, _, _, v, hv => by simp [Sh.enc] at hv
  | .pair a b, h, x, v, hv => by
    simp only [Sh.flat, Bool.and_eq_true] at h
    simp only [Sh.enc, List.mem_append] at hv
    rcases hv with hv | hv
    · exact Sh.enc_one h.1 v hv
    · exact Sh.enc_one h.2 v hv
  | .arr _ s, h, xs, v, hv => by
    simp only [Sh.enc, List.mem_flatMap] at hv
    obtain ⟨x, _, hv⟩ := hv
    exact Sh.enc_one (s := s) h v hv
  | .sl _, h, _, _, _ => by cases h

theorem encs_one {s : Sh} (fl : s.flat = true) (xs : List s.T) : ∀ v ∈ xs.flatMap s.enc, v.oneCell' = true := fun v hv => by
  obtain ⟨x, _, hv⟩ := List.mem_flatMap.1 hv
  exact Sh.enc_one fl v hv
theorem encs_len {s : Sh} (fl : s.flat = true) {xs : List s.T} (h : ∀ x ∈ xs, s.ok x) : (xs.flatMap s.enc).length = xs.length * s.size := flatMap_len fun x hx => Sh.enc_length fl (h x hx)

/-- A row of flat data, read. -/
theorem SlC.rdF {g : GH} {c : Nat} {s : Sh} {v : Sl} {xs : List s.T} (fl : s.flat = true) (r : SlC g c s v xs) : RdC s.size g c v (xs.flatMap s.enc) ∧ ∀ x ∈ xs, s.ok x := by
  obtain ⟨v', css, h, h1, h2, h3, h4, rd, l⟩ := r
  have := slV_inj (List.cons.inj h).1
  subst this
  have hx : ∀ i (hi : i < xs.length), css[i]? = some (s.enc xs[i]) ∧ s.ok xs[i] := fun i hi => by
    have := LayC.enc fl (l i _ _ (List.getElem?_eq_getElem hi) (List.getElem?_eq_getElem (show i < css.length by omega)))
    exact ⟨by rw [List.getElem?_eq_getElem (show i < css.length by omega), this.1], this.2⟩
  have hcss : css = xs.map s.enc := by
    apply List.ext_getElem?
    intro i
    by_cases hi : i < xs.length
    · rw [(hx i hi).1, List.getElem?_map, List.getElem?_eq_getElem hi]; rfl
    · rw [List.getElem?_eq_none (by omega), List.getElem?_eq_none (by simp; omega)]
  refine ⟨?_, fun x hxm => ?_⟩
  · rw [hcss] at rd
    exact rd
  · obtain ⟨i, hi, rfl⟩ := List.mem_iff_getElem.1 hxm
    exact (hx i hi).2
theorem SlC.ofF {g : GH} {c : Nat} {s : Sh} {v : Sl} {xs : List s.T} (fl : s.flat = true) (r : RdC s.size g c v (xs.flatMap s.enc)) (ok : ∀ x ∈ xs, s.ok x) (hn : v.n = xs.length) (hc : v.n ≤ v.c) (hs : xs.length ≤ 140737488351232) : SlC g c s v xs := by
  refine .of (xs.map s.enc) hc hn.symm (by simp [hn]) (by omega) r fun i x k a b => ?_
  rw [List.getElem?_map, a] at b
  simp at b
  subst b
  exact LayC.ofEnc fl (ok x (List.mem_of_getElem? a))

/-- An element, whole. -/
theorem loadF {g : GH} {c b o n : Nat} {s : Sh} {x : s.T} (hcs : CellsC g c b o (s.enc x)) (hn : n = s.size) (h0 : 0 < s.size) (hl : (s.enc x).length = s.size) {K : Array Value → Prop} (hK : K ⟨s.enc x⟩) : loadAggK n g.h (some ⟨b, o, none⟩) K := by
  refine loadAggK_cells (j := 0) hcs rfl (by omega) (by omega) ?_
  rw [List.drop_zero, List.take_of_length_le (by omega)]
  exact hK
theorem stillF {g : GH} {c b o n : Nat} {s : Sh} {x : s.T} (hcs : CellsC g c b o (s.enc x)) (hn : n = s.size) (h0 : 0 < s.size) (hl : (s.enc x).length = s.size) : stillAggK n g.h (some ⟨b, o, none⟩) ⟨s.enc x⟩ := loadF hcs hn h0 hl rfl
theorem SlC.idxF {g : GH} {c : Nat} {s : Sh} {v : Sl} {xs : List s.T} {sz i : Nat} {K : Addr → Prop} (fl : s.flat = true) (r : SlC g c s v xs) (hsz : sz = s.size) (h0 : 0 < s.size) (hi : i < xs.length)
    (H : ∀ (b o : Nat), CellsC g c b o (s.enc xs[i]) → s.ok xs[i] → (s.enc xs[i]).length = s.size → K ⟨b, o, none⟩) : idxK v (i : Int) sz K :=
  r.idx hsz h0 hi fun b o cs hcs lay => by
    obtain ⟨rfl, ok⟩ := LayC.enc fl lay
    exact H b o hcs ok (Sh.enc_length fl ok)

/-- A row of flat data that may be written to and grown. -/
structure OwnF (e : TypeId) (s : Sh) (g : GH) (c : Nat) (v : Sl) (xs : List s.T) : Prop where
  own : OwnC e s.size g c v (xs.flatMap s.enc)
  ok : ∀ x ∈ xs, s.ok x
  len : v.n = xs.length
theorem OwnF.mv {K : List Nat} {e : TypeId} {s : Sh} {g g' : GH} {c : Nat} {v : Sl} {xs : List s.T} (r : OwnF e s g c v xs) (m : Mv K g g') (hk : c ∉ K) : OwnF e s g' c v xs := ⟨r.own.mv m hk, r.ok, r.len⟩
theorem OwnF.base {e : TypeId} {s : Sh} {g : GH} {c : Nat} {v : Sl} {xs : List s.T} (r : OwnF e s g c v xs) : OwnF e s g.base 0 v xs := ⟨r.own.base, r.ok, r.len⟩
theorem OwnF.via {K : List Nat} {e : TypeId} {s : Sh} {g q : GH} {k : Nat} {v : Sl} {xs : List s.T} (r : OwnF e s q k v xs) (m : Mv K g.base q) (hk : k ≠ 0) (φ : Nat → Nat) : OwnF e s (g.via q φ) (φ k) v xs := ⟨r.own.via m hk φ, r.ok, r.len⟩
theorem OwnF.re {K : List Nat} {e : TypeId} {s : Sh} {g q : GH} {k : Nat} {v : Sl} {xs : List s.T} (r : OwnF e s q k v xs) (m : Mv K g q) {φ : Nat → Nat} (h : φ k = k ∨ Fresh g k) : OwnF e s (g.via q φ) (φ k) v xs := ⟨r.own.re m h, r.ok, r.len⟩
theorem OwnF.cap {e : TypeId} {s : Sh} {g : GH} {c : Nat} {v : Sl} {xs : List s.T} (r : OwnF e s g c v xs) : v.n ≤ v.c := r.own.cap
theorem OwnF.nil (e : TypeId) (s : Sh) (g : GH) (c : Nat) : OwnF e s g c ⟨none, 0, 0⟩ [] := ⟨OwnC.nil _ _ _ _, by simp, rfl⟩
theorem OwnF.slc {e : TypeId} {s : Sh} {g : GH} {c : Nat} {v : Sl} {xs : List s.T} (fl : s.flat = true) (r : OwnF e s g c v xs) (hs : xs.length ≤ 140737488351232) : SlC g c s v xs := .ofF fl r.own.rd r.ok r.len r.cap hs
theorem OwnF.plain {e : TypeId} {s : Sh} {g : GH} {c : Nat} {v : Sl} {xs : List s.T} (r : OwnF e s g c v xs) : v.plain := r.own.plain

theorem flatMap_take {α β : Type} {f : α → List β} {k : Nat} : ∀ {xs : List α} (n : Nat), (∀ x ∈ xs, (f x).length = k) → (xs.take n).flatMap f = (xs.flatMap f).take (n * k)
  | [], n, _ => by simp
  | x :: xs, 0, _ => by simp
  | x :: xs, n + 1, h => by
    have h1 := h x List.mem_cons_self
    rw [List.take_succ_cons, List.flatMap_cons, List.flatMap_cons, flatMap_take n fun y hy => h y (List.mem_cons_of_mem _ hy), Nat.succ_mul, Nat.add_comm, ← h1, List.take_length_add_append]
/-- The first n of a row that one owns. -/
theorem OwnF.take {e : TypeId} {s : Sh} {g : GH} {c : Nat} {v : Sl} {xs : List s.T} (fl : s.flat = true) (r : OwnF e s g c v xs) {n k : Nat} (hn : n ≤ xs.length) (hk : n ≤ k) (hkc : k ≤ v.c) : OwnF e s g c ⟨v.a, n, k⟩ (xs.take n) := by
  have hlen : ∀ x ∈ xs, (s.enc x).length = s.size := fun x hx => Sh.enc_length fl (r.ok x hx)
  refine ⟨⟨⟨?_, hk, ?_⟩, r.own.col⟩, fun x hx => r.ok x (List.mem_of_mem_take hx), by simp; omega⟩
  · rw [flatMap_take n hlen, List.length_take, encs_len fl r.ok]
    have := Nat.mul_le_mul_right s.size hn
    show min (n * s.size) (xs.length * s.size) = n * s.size
    omega
  · rcases r.own.own.2.2 with ⟨ha, hc⟩ | ⟨b, o, cs, ha, hb, hroom, hcs⟩
    · exact .inl ⟨ha, by show k = 0; omega⟩
    · refine .inr ⟨b, o, cs, ha, hb, ?_, fun i hi => ?_⟩
      · have := Nat.mul_le_mul_right s.size hkc
        show o + k * s.size ≤ cs.size
        omega
      · rw [flatMap_take n hlen] at hi ⊢
        rw [List.length_take] at hi
        rw [hcs i (by omega), List.getElem?_take_of_lt (by omega)]

section
variable {P : Program}

theorem appendF_C {e e2 sT xT rT : TypeId} {s : Sh} {by_ : Nat} {z : Value} (fl : s.flat = true) (hsT : P.underlying sT = some (.slice e)) (hdx : P.underlying xT = some (.slice e2))
    (hi : (P.info? e).map (fun i => (i.zero, i.size, i.bytes)) = some (some z, s.size, by_)) (hzs : z.cells.size = s.size) (hby : by_ ≤ 4096)
    {g : GH} {c d : Nat} {v w : Sl} {xs ys : List s.T} (hs : OwnF e s g c v xs) (hx : SlC g d s w ys) (hlen : v.n + w.n ≤ 1000000000) {K : Sl → Heap → Prop}
    (hK : ∀ (v' : Sl) (g' : GH), Mv [c] g g' → OwnF e s g' c v' (xs ++ ys) → K v' g'.h) :
    opK P .slice (Builtin.append_ #[sT, xT] rT #[.slice v.a v.n v.c, .slice w.a w.n w.c]) K g.h := by
  obtain ⟨hr, hok⟩ := hx.rdF fl
  refine append_C hsT hdx hi hzs hby hs.own hr.rd (encs_one fl ys) hlen fun v' g' m o hn _ => ?_
  refine hK v' g' m ⟨by rw [List.flatMap_append]; exact o, fun x hx => ?_, by rw [hn, hs.len, hx.len, List.length_append]⟩
  rcases List.mem_append.1 hx with hx | hx
  · exact hs.ok x hx
  · exact hok x hx

theorem overA_get {cells : Array Value} {o : Nat} {vs : List Value} {j : Nat} (h : o + vs.length ≤ cells.size) : (overA cells o vs)[j]? = if j < o then cells[j]? else if j < o + vs.length then vs[j - o]? else cells[j]? := by
  unfold overA
  simp only [List.getElem?_toArray]
  have h1 : (cells.toList.take o).length = o := by simp; omega
  by_cases ha : j < o
  · rw [if_pos ha, List.append_assoc, List.getElem?_append_left (by omega), List.getElem?_take_of_lt ha, Array.getElem?_toList]
  · rw [if_neg ha, List.append_assoc, List.getElem?_append_right (by omega), h1]
    by_cases hb : j < o + vs.length
    · rw [if_pos hb, List.getElem?_append_left (by omega)]
    · rw [if_neg hb, List.getElem?_append_right (by omega), List.getElem?_drop, Array.getElem?_toList]
      congr 1
      omega

theorem flatMap_get {α β : Type} {f : α → List β} {k : Nat} {xs : List α} (h : ∀ x ∈ xs, (f x).length = k) (hk : 0 < k) (j : Nat) : (xs.flatMap f)[j]? = (xs[j / k]?).bind fun x => (f x)[j % k]? := by
  have e : xs.flatMap f = (xs.map f).flatten := by simp [List.flatMap]
  have hl : (xs.flatMap f).length = xs.length * k := flatMap_len h
  by_cases hj : j / k < xs.length
  · rw [e]
    have := flatten_get (xs.map f) (sz := k) (fun c hc => by obtain ⟨x, hx, rfl⟩ := List.mem_map.1 hc; exact h x hx) (j / k) (j % k) (Nat.mod_lt _ hk) (by simpa using hj)
    rw [Nat.mul_comm, Nat.div_add_mod] at this
    rw [this, List.getElem?_map]
    cases xs[j / k]? <;> rfl
  · rw [List.getElem?_eq_none (by rw [hl]; exact Nat.not_lt.1 fun hlt => hj ((Nat.div_lt_iff_lt_mul hk).2 hlt)), List.getElem?_eq_none (show xs.length ≤ j / k by omega)]
    rfl

theorem OwnF.over {e : TypeId} {s : Sh} {g g' : GH} {c i b o : Nat} {v : Sl} {xs : List s.T} {y : s.T} {cs : Array Value} (fl : s.flat = true) (r : OwnF e s g c v xs) (h0 : 0 < s.size) (hi : i < xs.length) (hy : s.ok y) (m : Mv [c] g g')
    (ha : v.a = some ⟨b, o, none⟩) (hb : Blk g.h b cs e) (hroom : o + v.c * s.size ≤ cs.size) (hcs : ∀ j, j < (xs.flatMap s.enc).length → cs[o + j]? = (xs.flatMap s.enc)[j]?) (b' : BlkC g' c b (overA cs (o + i * s.size) (s.enc y)) e) : OwnF e s g' c v (xs.set i y) := by
  have hlen : ∀ x ∈ xs, (s.enc x).length = s.size := fun x hx => Sh.enc_length fl (r.ok x hx)
  have hyl := Sh.enc_length fl hy
  have hn := r.len
  have hcap := r.cap
  have hle : (i + 1) * s.size ≤ v.c * s.size := Nat.mul_le_mul_right _ (by omega)
  rw [Nat.succ_mul] at hle
  have hok : ∀ x ∈ xs.set i y, s.ok x := fun x hx => by
    rcases List.mem_or_eq_of_mem_set hx with hx | rfl
    · exact r.ok x hx
    · exact hy
  refine ⟨⟨⟨?_, hcap, .inr ⟨b, o, _, ha, b'.blk, ?_, ?_⟩⟩, fun b2 hb2 => ?_⟩, hok, by simpa using hn⟩
  · rw [encs_len fl hok, List.length_set, hn]
  · have : (overA cs (o + i * s.size) (s.enc y)).size = cs.size := by
      simp only [overA, List.size_toArray, List.length_append, List.length_take, List.length_drop, Array.length_toList, hyl]; omega
    rw [this]; exact hroom
  · intro j hj
    rw [encs_len fl hok, List.length_set] at hj
    rw [overA_get (by rw [hyl]; omega), hyl]
    have hol := encs_len fl r.ok
    rw [flatMap_get (fun x hx => Sh.enc_length fl (hok x hx)) h0]
    have hq : j / s.size < xs.length := (Nat.div_lt_iff_lt_mul h0).2 hj
    have hdm := Nat.div_add_mod j s.size
    have hml := Nat.mod_lt j h0
    by_cases hji : j / s.size = i
    · have e1 : j = i * s.size + j % s.size := by rw [← hji, Nat.mul_comm]; exact hdm.symm
      rw [if_neg (by omega), if_pos (by omega)]
      have e2 : o + j - (o + i * s.size) = j % s.size := by omega
      rw [e2, hji, List.getElem?_set_self hi]
      rfl
    · have e3 : (xs.set i y)[j / s.size]? = xs[j / s.size]? := List.getElem?_set_ne (by omega)
      rw [e3, ← flatMap_get hlen h0, ← hcs j (by omega)]
      rcases Nat.lt_or_gt_of_ne hji with h | h
      · have : (j / s.size + 1) * s.size ≤ i * s.size := Nat.mul_le_mul_right _ h
        rw [Nat.succ_mul, Nat.mul_comm] at this
        rw [if_pos (by omega)]
      · have : (i + 1) * s.size ≤ j / s.size * s.size := Nat.mul_le_mul_right _ h
        rw [Nat.succ_mul, Nat.mul_comm (j / s.size)] at this
        rw [if_neg (by omega), if_neg (by omega)]
  · rw [m.col b2 (by have := (Sl.blk v); rw [show b2 = b from by simp [Sl.blk, ha] at hb2; exact hb2.symm]; exact lt_of_get hb)]
    exact r.own.col b2 hb2

end

end Go.Ev
