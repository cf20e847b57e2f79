/-
  What a given argument is, whatever its type is made of: shapes, their data, the cells that stand for it, and one theorem that opens an argument of a statement.
-/
import Derived.Test.YtijipdaofojbiaaRow
set_option linter.unusedVariables false
set_option linter.unusedSimpArgs false
namespace Go.Ev
open Go

inductive Sh where
  | int (k : IntKind)
  | bool
  | str
  | unit
  | pair (a b : Sh)
  | arr (n : Nat) (s : Sh)
  | sl (s : Sh)

/-- The data of a shape. -/
@[reducible] def Sh.T : Sh → Type
  | .int _ => Int
  | .bool => Bool
  | .str => ByteArray
  | .unit => Unit
  | .pair a b => a.T × b.T
  | .arr _ s => List s.T
  | .sl s => List s.T

/-- How many cells it has. -/
def Sh.size : Sh → Nat
  | .int _ => 1
  | .bool => 1
  | .str => 1
  | .unit => 0
  | .pair a b => a.size + b.size
  | .arr n s => n * s.size
  | .sl _ => 1

/-- These cells stand for this data. -/
def Lay (h : Heap) : (s : Sh) → s.T → List Value → Prop
  | .int k, n, cs => cs = [.int k n] ∧ k.min ≤ n ∧ n ≤ k.max
  | .bool, b, cs => cs = [.bool b]
  | .str, s, cs => cs = [.string s] ∧ s.size ≤ 140737488351232
  | .unit, _, cs => cs = []
  | .pair a b, x, cs => ∃ c1 c2, cs = c1 ++ c2 ∧ Lay h a x.1 c1 ∧ Lay h b x.2 c2
  | .arr n s, xs, cs => xs.length = n ∧ ∃ css : List (List Value), cs = css.flatten ∧ css.length = n ∧ ∀ (i : Nat) (x : s.T) (c : List Value), xs[i]? = some x → css[i]? = some c → Lay h s x c
  | .sl s, xs, cs => ∃ (v : Sl) (css : List (List Value)), cs = [.slice v.a v.n v.c] ∧ v.n ≤ v.c ∧ xs.length = v.n ∧ css.length = v.n ∧ v.n ≤ 140737488351232 ∧ Rd s.size h v css.flatten ∧
      ∀ (i : Nat) (x : s.T) (c : List Value), xs[i]? = some x → css[i]? = some c → Lay h s x c

theorem Lay.length {h : Heap} : ∀ {s : Sh} {x : s.T} {cs : List Value}, Lay h s x cs → cs.length = s.size
  | .int k, x, cs, l => by rw [l.1]; rfl
  | .bool, x, cs, l => by rw [show cs = _ from l]; rfl
  | .str, x, cs, l => by rw [l.1]; rfl
  | .unit, x, cs, l => by rw [show cs = _ from l]; rfl
  | .pair a b, x, cs, l => by
    obtain ⟨c1, c2, rfl, h1, h2⟩ := l
    rw [List.length_append, h1.length, h2.length]; rfl
  | .arr n s, xs, cs, l => by
    obtain ⟨hn, css, rfl, hc, hl⟩ := l
    have key : ∀ (css : List (List Value)) (xs : List s.T), xs.length = css.length → (∀ (i : Nat) (x : s.T) (c : List Value), xs[i]? = some x → css[i]? = some c → c.length = s.size) → css.flatten.length = css.length * s.size := by
      intro css
      induction css with
      | nil => intro xs _ _; simp
      | cons c css ih =>
        intro xs hx hall
        cases xs with
        | nil => simp at hx
        | cons x xs =>
          rw [List.flatten_cons, List.length_append, hall 0 x c rfl rfl, ih xs (by simpa using hx) (fun i x c h1 h2 => hall (i + 1) x c (by simpa using h1) (by simpa using h2)), List.length_cons, Nat.succ_mul, Nat.add_comm]
    rw [key css xs (by omega) (fun i x c h1 h2 => (hl i x c h1 h2).length), hc]; rfl
  | .sl s, xs, cs, l => by
    obtain ⟨v, css, rfl, _⟩ := l
    rfl

/-- A type's shape, or that of the fields from a cell on. -/
def Sh.fit (P : Program) : Sh → (TypeId ⊕ (List Field × Nat)) → Bool
  | .int k, .inl t => match P.underlying t with | some (.int k') => decide (k = k') | _ => false
  | .bool, .inl t => match P.underlying t with | some .bool => true | _ => false
  | .str, .inl t => match P.underlying t with | some .string => true | _ => false
  | .sl s, .inl t => match P.underlying t with | some (.slice e) => s.fit P (.inl e) && decide (P.cellsOf e = s.size) && decide (1 ≤ P.bytesOf e) | _ => false
  | .arr n s, .inl t => match P.underlying t with | some (.array m e) => decide (m = n) && s.fit P (.inl e) && decide (P.cellsOf e = s.size) && decide (P.cellsOf t = n * s.size) | _ => false
  | .pair a b, .inl t => match P.underlying t with
    | some (.struct fs) => match fs.toList with
      | f :: r => decide (f.offset = 0) && a.fit P (.inl f.type) && decide (P.cellsOf f.type = a.size) && b.fit P (.inr (r, a.size)) && decide (P.cellsOf t = a.size + b.size)
      | [] => false
    | _ => false
  | .unit, .inr ([], _) => true
  | .pair a b, .inr (f :: r, off) => decide (f.offset = off) && a.fit P (.inl f.type) && decide (P.cellsOf f.type = a.size) && b.fit P (.inr (r, off + a.size))
  | _, _ => false

theorem mapM_cells {w : World} {a : Addr} : ∀ (n k : Nat) {cs : List Value}, ((List.range' k n).mapM fun i => w.cell? (a.add i)) = some cs → cs.length = n ∧ ∀ i, i < n → w.cell? (a.add (k + i)) = cs[i]?
  | 0, k, cs, h => by simp at h; subst h; simp
  | n + 1, k, cs, h => by
    rw [List.range'_succ, List.mapM_cons] at h
    simp only [Option.bind_eq_bind, Option.pure_def, Option.bind_eq_some_iff, Option.some.injEq] at h
    obtain ⟨v, hv, vs, hvs, rfl⟩ := h
    obtain ⟨h1, h2⟩ := mapM_cells n (k + 1) hvs
    refine ⟨by simp [h1], fun i hi => ?_⟩
    cases i with
    | zero => simpa using hv
    | succ i => rw [List.getElem?_cons_succ, ← h2 i (by omega)]; congr 2; omega

theorem cells_spec {w : World} {base : Nat} {a : Addr} {n : Nat} {cs : List Value} (h : w.cells? base a n = some cs) : cs.length = n ∧ ∀ i, i < n → w.cell? (a.add i) = cs[i]? := by
  unfold World.cells? at h
  split at h
  · rw [List.range_eq_range'] at h
    obtain ⟨h1, h2⟩ := mapM_cells n 0 h
    exact ⟨h1, fun i hi => by simpa using h2 i hi⟩
  · cases h

theorem flatten_get {α : Type} {sz : Nat} : ∀ (css : List (List α)), (∀ c ∈ css, c.length = sz) → ∀ (q r : Nat), r < sz → q < css.length → css.flatten[q * sz + r]? = (css[q]?.bind fun c => c[r]?)
  | [], _, q, r, _, hq => by simp at hq
  | c :: css, hc, 0, r, hr, _ => by
    rw [List.flatten_cons, Nat.zero_mul, Nat.zero_add, List.getElem?_append_left (by rw [hc c List.mem_cons_self]; exact hr)]
    rfl
  | c :: css, hc, q + 1, r, hr, hq => by
    have hl := hc c List.mem_cons_self
    rw [List.flatten_cons, List.getElem?_append_right (by rw [hl, Nat.succ_mul]; omega), List.getElem?_cons_succ, ← flatten_get css (fun x hx => hc x (List.mem_cons_of_mem _ hx)) q r hr (by simpa using hq)]
    congr 1
    rw [hl, Nat.succ_mul]
    omega

theorem flatten_len {α : Type} {sz : Nat} : ∀ (css : List (List α)), (∀ c ∈ css, c.length = sz) → css.flatten.length = css.length * sz
  | [], _ => by simp
  | c :: css, hc => by
    rw [List.flatten_cons, List.length_append, hc c List.mem_cons_self, flatten_len css (fun x hx => hc x (List.mem_cons_of_mem _ hx)), List.length_cons, Nat.succ_mul, Nat.add_comm]

/-- What is there for each place is there as a list. -/
theorem listOf {α : Type} {Q : Nat → α → Prop} : ∀ (n : Nat), (∀ i, i < n → ∃ x, Q i x) → ∃ xs : List α, xs.length = n ∧ ∀ i x, xs[i]? = some x → Q i x
  | 0, _ => ⟨[], rfl, by simp⟩
  | n + 1, h => by
    obtain ⟨xs, h1, h2⟩ := listOf n fun i hi => h i (by omega)
    obtain ⟨x, hx⟩ := h n (by omega)
    refine ⟨xs ++ [x], by simp [h1], fun i y hy => ?_⟩
    by_cases hi : i < n
    · rw [List.getElem?_append_left (by omega)] at hy; exact h2 i y hy
    · rw [List.getElem?_append_right (by omega)] at hy
      have : i - xs.length = 0 := by
        have := (List.getElem?_eq_some_iff.1 hy).1
        simp at this; omega
      rw [this] at hy
      have : i = n := by omega
      subst this
      simp at hy
      subst hy
      exact hx

theorem weightsAll_mem {H : Type} {P : Program} {e : TypeId} : ∀ {l : List (DataW H)} {i : Nat} {d : DataW H}, l[i]? = some d → ∀ n ∈ d.weights P e, n ∈ DataW.weightsAll P e l
  | [], i, d, h, n, hn => by simp at h
  | x :: l, 0, d, h, n, hn => by
    simp at h; subst h
    simp only [DataW.weightsAll, List.mem_append]; exact .inl hn
  | x :: l, i + 1, d, h, n, hn => by
    simp only [DataW.weightsAll, List.mem_append]; exact .inr (weightsAll_mem (l := l) (i := i) (by simpa using h) n hn)

section
variable {H : Type} {enc : TypeId × Value → H} {P : Program} {w : World} {base : Nat} {held : Bool}

theorem open_both (s : Sh) :
    (∀ (t : TypeId) (cs : List Value) (x : DataW H × List MemPlace) (fuel : Nat), s.fit P (.inl t) = true → DataW.trod enc P w base (fun _ => true) held fuel t cs = some x → (∀ n ∈ x.1.weights P t, n ≤ reachBytes) → ∃ d : s.T, Lay w.heap s d cs) ∧
    (∀ (fs : List Field) (off : Nat) (cs : List Value) (xs : List (DataW H × List MemPlace)) (fuel : Nat), s.fit P (.inr (fs, off)) = true → cs.length = off + s.size → xs.length = fs.length →
      (∀ (i : Nat) (f : Field), fs[i]? = some f → DataW.trod enc P w base (fun _ => true) held fuel f.type ((cs.drop f.offset).take (P.cellsOf f.type)) = xs[i]?) →
      (∀ n ∈ DataW.weightsEach P (fs.map (·.type)) (xs.map (·.1)), n ≤ reachBytes) → ∃ d : s.T, Lay w.heap s d (cs.drop off)) := by
  induction s with
  | int k =>
    refine ⟨fun t cs x fuel hf h hw => ?_, fun fs off cs xs fuel hf => by simp [Sh.fit] at hf⟩
    simp only [Sh.fit] at hf
    split at hf
    · rename_i k' hu
      obtain rfl := of_decide_eq_true hf
      obtain ⟨n, rfl, _, hwf⟩ := DataW.trod_int hu h
      simp only [Lit.wf, Bool.and_eq_true, decide_eq_true_eq] at hwf
      exact ⟨n, rfl, hwf.1, hwf.2⟩
    · cases hf
  | bool =>
    refine ⟨fun t cs x fuel hf h hw => ?_, fun fs off cs xs fuel hf => by simp [Sh.fit] at hf⟩
    simp only [Sh.fit] at hf
    split at hf
    · rename_i hu
      obtain ⟨b, rfl, _⟩ := DataW.trod_bool hu h
      exact ⟨b, rfl⟩
    · cases hf
  | str =>
    refine ⟨fun t cs x fuel hf h hw => ?_, fun fs off cs xs fuel hf => by simp [Sh.fit] at hf⟩
    simp only [Sh.fit] at hf
    split at hf
    · rename_i hu
      obtain ⟨b, rfl, hx, _⟩ := DataW.trod_string hu h
      subst hx
      have := hw b.size (by simp [DataW.weights])
      have h6 : reachBytes = 140737488351232 := by decide
      exact ⟨b, rfl, by omega⟩
    · cases hf
  | unit =>
    refine ⟨fun t cs x fuel hf h hw => by simp [Sh.fit] at hf, fun fs off cs xs fuel hf hl hx hall hw => ?_⟩
    cases fs with
    | nil => exact ⟨(), List.drop_eq_nil_of_le (by simp [Sh.size] at hl; omega)⟩
    | cons f r => simp [Sh.fit] at hf
  | pair a b iha ihb =>
    have fields : ∀ (f : Field) (r : List Field) (off : Nat) (cs : List Value) (xs : List (DataW H × List MemPlace)) (fuel : Nat), f.offset = off → a.fit P (.inl f.type) = true → P.cellsOf f.type = a.size → b.fit P (.inr (r, off + a.size)) = true →
        cs.length = off + (a.size + b.size) → xs.length = (f :: r).length → (∀ (i : Nat) (g : Field), (f :: r)[i]? = some g → DataW.trod enc P w base (fun _ => true) held fuel g.type ((cs.drop g.offset).take (P.cellsOf g.type)) = xs[i]?) →
        (∀ n ∈ DataW.weightsEach P ((f :: r).map (·.type)) (xs.map (·.1)), n ≤ reachBytes) → ∃ d : (Sh.pair a b).T, Lay w.heap (Sh.pair a b) d (cs.drop off) := by
      intro f r off cs xs fuel ho ha hc hb hl hx hall hw
      cases xs with
      | nil => simp at hx
      | cons x xs =>
        have h0 := hall 0 f rfl
        rw [ho, hc] at h0
        simp only [List.map_cons, DataW.weightsEach, List.mem_append] at hw
        obtain ⟨d1, l1⟩ := iha.1 f.type _ x fuel ha h0 (fun n hn => hw n (.inl hn))
        obtain ⟨d2, l2⟩ := ihb.2 r (off + a.size) cs xs fuel hb (by omega) (by simpa using hx) (fun i g hg => by simpa using hall (i + 1) g (by simpa using hg)) (fun n hn => hw n (.inr hn))
        refine ⟨(d1, d2), (cs.drop off).take a.size, cs.drop (off + a.size), ?_, l1, l2⟩
        rw [← List.drop_drop]
        exact (List.take_append_drop _ _).symm
    refine ⟨fun t cs x fuel hf h hw => ?_, fun fs off cs xs fuel hf hl hx hall hw => ?_⟩
    · simp only [Sh.fit] at hf
      split at hf
      · rename_i fs hu
        split at hf
        · rename_i f r hfs
          simp only [Bool.and_eq_true, decide_eq_true_eq] at hf
          obtain ⟨⟨⟨⟨ho, ha⟩, hc⟩, hb⟩, hct⟩ := hf
          obtain ⟨xs, n, rfl, rfl, hl, hxl, hall⟩ := DataW.trod_struct hu h
          have := fields f r 0 cs xs n ho ha hc (by simpa using hb) (by omega) (by rw [hxl, ← hfs]; simp) (fun i g hg => hall i g (by rw [← hfs] at hg; simpa using hg)) (fun m hm => hw m (by
            simp only [DataW.weights, hu, hfs]; exact hm))
          simpa using this
        · cases hf
      · cases hf
    · cases fs with
      | nil => simp [Sh.fit] at hf
      | cons f r =>
        simp only [Sh.fit, Bool.and_eq_true, decide_eq_true_eq] at hf
        obtain ⟨⟨⟨ho, ha⟩, hc⟩, hb⟩ := hf
        exact fields f r off cs xs fuel ho ha hc hb (by simpa [Sh.size] using hl) hx hall hw
  | arr n s ih =>
    refine ⟨fun t cs x fuel hf h hw => ?_, fun fs off cs xs fuel hf => by simp [Sh.fit] at hf⟩
    simp only [Sh.fit] at hf
    split at hf
    · rename_i m e hu
      simp only [Bool.and_eq_true, decide_eq_true_eq] at hf
      obtain ⟨⟨⟨rfl, he⟩, hc⟩, hct⟩ := hf
      obtain ⟨xs, k, rfl, rfl, hl, hxl, hall⟩ := DataW.trod_array hu h
      have hex : ∀ i, i < m → ∃ d : s.T, Lay w.heap s d ((cs.drop (i * s.size)).take s.size) := fun i hi => by
        have h1 := hall i hi
        rw [hc] at h1
        have hx : xs[i]? = some (xs[i]'(by omega)) := List.getElem?_eq_getElem (by omega)
        refine ih.1 e _ (xs[i]'(by omega)) k he (h1.trans hx) (fun q hq => hw q ?_)
        simp only [DataW.weights, hu]
        exact weightsAll_mem (i := i) (by rw [List.getElem?_map, hx]; rfl) q hq
      obtain ⟨ds, hd1, hd2⟩ := listOf m hex
      have hcl : ∀ c ∈ (List.range m).map (fun i => (cs.drop (i * s.size)).take s.size), c.length = s.size := fun c hc' => by
        obtain ⟨i, hi, rfl⟩ := List.mem_map.1 hc'
        obtain ⟨d, hd⟩ := hex i (List.mem_range.1 hi)
        exact hd.length
      refine ⟨ds, hd1, (List.range m).map (fun i => (cs.drop (i * s.size)).take s.size), ?_, by simp, fun i x c h1 h2 => ?_⟩
      · apply List.ext_getElem?
        intro j
        by_cases hj : j < m * s.size
        · have hs : 0 < s.size := by
            rcases Nat.eq_zero_or_pos s.size with h0 | h0
            · rw [h0] at hj; simp at hj
            · exact h0
          have hq : j / s.size < m := Nat.div_lt_of_lt_mul (by rw [Nat.mul_comm]; exact hj)
          have hr : j % s.size < s.size := Nat.mod_lt _ hs
          have hjj : j = j / s.size * s.size + j % s.size := by rw [Nat.mul_comm]; exact (Nat.div_add_mod _ _).symm
          have := flatten_get _ hcl (j / s.size) (j % s.size) hr (by simpa using hq)
          rw [← hjj] at this
          rw [this]
          simp only [List.getElem?_map, List.getElem?_range hq, Option.map_some, Option.bind_some]
          rw [List.getElem?_take_of_lt hr, List.getElem?_drop, ← hjj]
        · rw [List.getElem?_eq_none (by omega), List.getElem?_eq_none (by rw [flatten_len _ hcl]; simp; omega)]
      · have hi : i < m := by have := (List.getElem?_eq_some_iff.1 h1).1; omega
        simp only [List.getElem?_map, List.getElem?_range hi, Option.map_some, Option.some.injEq] at h2
        subst h2
        exact hd2 i x h1
    · cases hf
  | sl s ih =>
    refine ⟨fun t cs x fuel hf h hw => ?_, fun fs off cs xs fuel hf => by simp [Sh.fit] at hf⟩
    simp only [Sh.fit] at hf
    split at hf
    · rename_i e hu
      simp only [Bool.and_eq_true, decide_eq_true_eq] at hf
      obtain ⟨⟨he, hc⟩, hby⟩ := hf
      rcases DataW.trod_slice hu h with ⟨rfl, rfl⟩ | ⟨a, len, cap, elems, rest, k, rfl, rfl, rfl, hb, hl, hm, hlen, hel, _, _⟩
      · exact ⟨[], ⟨none, 0, 0⟩, [], rfl, Nat.le_refl _, rfl, rfl, by simp, Rd.nil _ _ _ _, by simp⟩
      · have hwb : (elems.length + rest.length) * P.bytesOf e ≤ reachBytes := hw _ (by simp [DataW.weights, hu])
        have h6 : reachBytes = 140737488351232 := by decide
        have hlb : len ≤ 140737488351232 := by
          have h1 : (elems.length + rest.length) * 1 ≤ (elems.length + rest.length) * P.bytesOf e := Nat.mul_le_mul_left _ hby
          omega
        rw [hc] at hel
        have hex : ∀ i, i < len → ∃ (c : List Value) (d : s.T), w.cells? base (a.add (i * s.size)) s.size = some c ∧ Lay w.heap s d c := fun i hi => by
          have hx : elems[i]? = some (elems[i]'(by omega)) := List.getElem?_eq_getElem (by omega)
          have h1 := (hel i hi).trans hx
          rw [Option.bind_eq_some_iff] at h1
          obtain ⟨c, hc1, hc2⟩ := h1
          obtain ⟨d, hd⟩ := ih.1 e c _ k he hc2 (fun q hq => hw q (by
            simp only [DataW.weights, hu, List.mem_cons, List.mem_append]
            exact .inr (.inl (weightsAll_mem (i := i) (by rw [List.getElem?_map, hx]; rfl) q hq))))
          exact ⟨c, d, hc1, hd⟩
        obtain ⟨css, hcs1, hcs2⟩ := listOf len hex
        have hcl : ∀ c ∈ css, c.length = s.size := fun c hc' => by
          obtain ⟨i, hi, rfl⟩ := List.mem_iff_getElem.1 hc'
          obtain ⟨d, _, hd⟩ := hcs2 i _ (List.getElem?_eq_getElem hi)
          exact hd.length
        obtain ⟨ds, hd1, hd2⟩ := listOf (Q := fun i (d : s.T) => ∀ c, css[i]? = some c → Lay w.heap s d c) len (fun i hi => by
          obtain ⟨d, _, hd⟩ := hcs2 i _ (List.getElem?_eq_getElem (by omega))
          exact ⟨d, fun c hc' => by rw [List.getElem?_eq_getElem (by omega)] at hc'; cases hc'; exact hd⟩)
        refine ⟨ds, ⟨some a, len, cap⟩, css, rfl, hl, hd1, hcs1, hlb, ⟨by rw [flatten_len _ hcl, hcs1], ?_⟩, fun i x c h1 h2 => hd2 i x h1 c h2⟩
        by_cases h0 : len * s.size = 0
        · left
          exact List.length_eq_zero_iff.1 (by rw [flatten_len _ hcl, hcs1, h0])
        · right
          have hs : 0 < s.size := Nat.pos_of_ne_zero fun e => h0 (by rw [e, Nat.mul_zero])
          have hlp : 0 < len := Nat.pos_of_ne_zero fun e => h0 (by rw [e, Nat.zero_mul])
          have hget : ∀ q r, q < len → r < s.size → ∃ v, w.cell? ((a.add (q * s.size)).add r) = some v ∧ css.flatten[q * s.size + r]? = some v := fun q r hq hr => by
            have hqc : css[q]? = some (css[q]'(by omega)) := List.getElem?_eq_getElem (by omega)
            obtain ⟨d, hcell, hd⟩ := hcs2 q _ hqc
            obtain ⟨hl1, hl2⟩ := cells_spec hcell
            refine ⟨(css[q]'(by omega))[r]'(by omega), ?_, ?_⟩
            · rw [hl2 r hr, List.getElem?_eq_getElem]
            · rw [flatten_get css hcl q r hr (by omega), hqc, Option.bind_some, List.getElem?_eq_getElem]
          obtain ⟨v0, hv0, _⟩ := hget 0 0 hlp hs
          have ha0 : (a.add (0 * s.size)).add 0 = a := by simp [Addr.add]
          rw [ha0] at hv0
          obtain ⟨hsp, c, ety, fz, hblk, _⟩ := cell_some hv0
          obtain ⟨ab, ao, asp⟩ := a
          dsimp only at hsp hblk
          subst hsp
          refine ⟨ab, ao, c, ety, fz, rfl, hblk, fun i hi => ?_⟩
          rw [flatten_len _ hcl, hcs1] at hi
          have hq : i / s.size < len := Nat.div_lt_of_lt_mul (by rw [Nat.mul_comm]; exact hi)
          have hr : i % s.size < s.size := Nat.mod_lt _ hs
          have hii : i = i / s.size * s.size + i % s.size := by rw [Nat.mul_comm]; exact (Nat.div_add_mod _ _).symm
          obtain ⟨v, hv, hfl⟩ := hget (i / s.size) (i % s.size) hq hr
          rw [← hii] at hfl
          rw [hfl]
          obtain ⟨_, c', _, _, hb', h2⟩ := cell_some hv
          rw [addr_add, addr_add] at hb' h2
          dsimp only at hb' h2
          rw [hblk] at hb'
          obtain ⟨rfl, _, _⟩ := hb'
          rw [← h2]
          congr 1
          omega
    · cases hf

/-- An argument of a statement, opened. -/
theorem open_arg {t : TypeId} {v : Value} {d : DataW H} {ps : List MemPlace} {ts : List TypeId} {ds : List (DataW H)} {j : Nat} (s : Sh)
    (hsz : (DataW.weightsEach P ts ds).all (· ≤ reachBytes) = true) (ht : ts[j]? = some t) (hd : ds[j]? = some d) (hf : s.fit P (.inl t) = true) (h : DataW.Trod enc P w base (fun _ => true) held t v d ps) :
    ∃ x : s.T, Lay w.heap s x v.cells.toList := by
  obtain ⟨fuel, h⟩ := h
  refine (open_both s).1 t _ _ fuel hf h fun n hn => ?_
  have := List.all_eq_true.1 hsz _ (DataW.weights_mem_each ht hd n hn)
  simpa using this
end

end Go.Ev
