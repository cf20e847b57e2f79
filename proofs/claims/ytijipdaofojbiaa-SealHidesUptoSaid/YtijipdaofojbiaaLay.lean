/-
  A statement's arguments in colours: shapes, and how their parts are read. Nothing of a given program stands here.
-/
import Derived.Test.YtijipdaofojbiaaCol
import Derived.Test.YtijipdaofojbiaaShape
set_option linter.unusedSimpArgs false
set_option linter.unusedVariables false
namespace Go.Ev
open Go

/-- From a place of a block on memory reads these cells. -/
def Cells (h : Heap) (b o : Nat) (cs : List Value) : Prop := ∃ c e fz, h[b]? = some (.cells c e fz) ∧ ∀ j, j < cs.length → c[o + j]? = cs[j]?

/-- The same, of a colour. -/
structure CellsC (g : GH) (c b o : Nat) (cs : List Value) : Prop where
  at_ : Cells g.h b o cs
  col : g.γ b = c
theorem CellsC.mv {K : List Nat} {g g' : GH} {c b o : Nat} {cs : List Value} (r : CellsC g c b o cs) (m : Mv K g g') (hk : c ∉ K) : CellsC g' c b o cs := by
  obtain ⟨⟨x, e, fz, hb, hx⟩, hc⟩ := r
  exact ⟨⟨x, e, fz, m.get hb (by rw [hc]; exact hk), hx⟩, by rw [m.col' hb]; exact hc⟩
theorem loadK_cells {g : GH} {c b o p j : Nat} {cs : List Value} (r : CellsC g c b o cs) {k : Kd} (x : k.T) (hp : p = o + j) (hx : cs[j]? = some (k.inj x)) {K : k.T → Prop} (hK : K x) : loadK k g.h (some ⟨b, p, none⟩) K := by
  obtain ⟨⟨y, e, fz, hb, hy⟩, hc⟩ := r
  subst hp
  exact ⟨b, o + j, y, e, fz, x, rfl, hb, by rw [hy j (List.getElem?_eq_some_iff.1 hx).1]; exact hx, hK⟩
theorem stillK_cells {g : GH} {c b o p j : Nat} {cs : List Value} (r : CellsC g c b o cs) {k : Kd} {x : k.T} (hp : p = o + j) (hx : cs[j]? = some (k.inj x)) : stillK k g.h (some ⟨b, p, none⟩) x := loadK_cells r x hp hx rfl
/-- The address of an element of a row; it is loaded later. -/
theorem RdC.at_ {sz : Nat} {g : GH} {c : Nat} {s : Sl} {vs : List Value} (r : RdC 1 g c s vs) (hne : vs ≠ []) (hsz : sz = 1) : ∃ b o, CellsC g c b o vs ∧ ∀ (i : Int) (K : Addr → Prop), 0 ≤ i → i.toNat < vs.length → K ⟨b, o + i.toNat, none⟩ → idxK s i sz K := by
  subst hsz
  rcases r.rd.2 with e | ⟨b, o, y, e, fz, ha, hb, hy⟩
  · exact absurd e hne
  rcases r.col with e | ⟨b', hb', hlt, hγ⟩
  · exact absurd e hne
  have : b = b' := by simp [Sl.blk, ha] at hb'; exact hb'
  subst this
  refine ⟨b, o, ⟨⟨y, e, fz, hb, hy⟩, hγ⟩, fun i K h0 h1 hK => ⟨_, ha, ⟨h0, by rw [r.len]; omega⟩, ?_⟩⟩
  rw [addr_add, Nat.mul_one]
  exact hK

theorem loadAggK_cells {g : GH} {c b o p j n : Nat} {cs : List Value} (r : CellsC g c b o cs) (hp : p = o + j) (h0 : 0 < n) (hn : j + n ≤ cs.length) {K : Array Value → Prop} (hK : K ⟨(cs.drop j).take n⟩) : loadAggK n g.h (some ⟨b, p, none⟩) K := by
  obtain ⟨⟨y, e, fz, hb, hy⟩, hc⟩ := r
  subst hp
  have hsz : o + j + n ≤ y.size := by
    have := hy (j + n - 1) (by omega)
    rw [List.getElem?_eq_getElem (by omega)] at this
    have := (Array.getElem?_eq_some_iff.1 this).1
    omega
  refine ⟨b, o + j, y, e, fz, rfl, hb, hsz, ?_⟩
  have : y.extract (o + j) (o + j + n) = ⟨(cs.drop j).take n⟩ := by
    apply Array.ext_getElem?
    intro i
    rw [Array.getElem?_extract]
    simp only [List.getElem?_toArray]
    by_cases hi : i < n
    · rw [List.getElem?_take_of_lt hi, List.getElem?_drop, if_pos (by omega), Nat.add_assoc, hy (j + i) (by omega)]
    · rw [if_neg (by omega), List.getElem?_eq_none]
      simp; omega
  rw [this]
  exact hK

/-- These cells stand for this data; all rows lie in colour c. -/
def LayC (g : GH) (c : Nat) : (s : Sh) → s.T → List Value → Prop
  | .int k, n, cs => cs = [.int k n] ∧ k.min ≤ n ∧ n ≤ k.max
  | .bool, b, cs => cs = [.bool b]
  | .str, s, cs => cs = [.string s] ∧ s.size ≤ 140737488351232
  | .unit, _, cs => cs = []
  | .pair a b, x, cs => ∃ c1 c2, cs = c1 ++ c2 ∧ LayC g c a x.1 c1 ∧ LayC g c b x.2 c2
  | .arr n s, xs, cs => xs.length = n ∧ ∃ css : List (List Value), cs = css.flatten ∧ css.length = n ∧ ∀ (i : Nat) (x : s.T) (k : List Value), xs[i]? = some x → css[i]? = some k → LayC g c s x k
  | .sl s, xs, cs => ∃ (v : Sl) (css : List (List Value)), cs = [slV v] ∧ v.n ≤ v.c ∧ xs.length = v.n ∧ css.length = v.n ∧ v.n ≤ 140737488351232 ∧ RdC s.size g c v css.flatten ∧
      ∀ (i : Nat) (x : s.T) (k : List Value), xs[i]? = some x → css[i]? = some k → LayC g c s x k

theorem LayC.mv {K : List Nat} {g g' : GH} {c : Nat} (m : Mv K g g') (hk : c ∉ K) : ∀ {s : Sh} {x : s.T} {cs : List Value}, LayC g c s x cs → LayC g' c s x cs
  | .int _, _, _, l => l
  | .bool, _, _, l => l
  | .str, _, _, l => l
  | .unit, _, _, l => l
  | .pair a b, x, cs, ⟨c1, c2, h, l1, l2⟩ => ⟨c1, c2, h, l1.mv m hk, l2.mv m hk⟩
  | .arr n s, xs, cs, ⟨hn, css, h, hl, l⟩ => ⟨hn, css, h, hl, fun i x k a b => (l i x k a b).mv m hk⟩
  | .sl s, xs, cs, ⟨v, css, h, h1, h2, h3, h4, r, l⟩ => ⟨v, css, h, h1, h2, h3, h4, r.mv m hk, fun i x k a b => (l i x k a b).mv m hk⟩

/-- A statement's argument, at any later time. -/
theorem Lay.arg {K : List Nat} {h : Heap} {g : GH} (m : Mv K ⟨h, fun _ => 0⟩ g) (h0 : 0 ∉ K) : ∀ {s : Sh} {x : s.T} {cs : List Value}, Lay h s x cs → LayC g 0 s x cs
  | .int _, _, _, l => l
  | .bool, _, _, l => l
  | .str, _, _, l => l
  | .unit, _, _, l => l
  | .pair a b, x, cs, ⟨c1, c2, h, l1, l2⟩ => ⟨c1, c2, h, l1.arg m h0, l2.arg m h0⟩
  | .arr n s, xs, cs, ⟨hn, css, h, hl, l⟩ => ⟨hn, css, h, hl, fun i x k a b => (l i x k a b).arg m h0⟩
  | .sl s, xs, cs, ⟨v, css, h, h1, h2, h3, h4, r, l⟩ => ⟨v, css, h, h1, h2, h3, h4, r.arg m h0, fun i x k a b => (l i x k a b).arg m h0⟩

/-- What was there at a call's begin is there later, of the colour 0. -/
theorem LayC.arg {K : List Nat} {g q : GH} {c : Nat} (m : Mv K g.base q) (h0 : 0 ∉ K) : ∀ {s : Sh} {x : s.T} {cs : List Value}, LayC g c s x cs → LayC q 0 s x cs
  | .int _, _, _, l => l
  | .bool, _, _, l => l
  | .str, _, _, l => l
  | .unit, _, _, l => l
  | .pair a b, x, cs, ⟨c1, c2, h, l1, l2⟩ => ⟨c1, c2, h, l1.arg m h0, l2.arg m h0⟩
  | .arr n s, xs, cs, ⟨hn, css, h, hl, l⟩ => ⟨hn, css, h, hl, fun i x k a b => (l i x k a b).arg m h0⟩
  | .sl s, xs, cs, ⟨v, css, h, h1, h2, h3, h4, r, l⟩ => ⟨v, css, h, h1, h2, h3, h4, r.arg m h0, fun i x k a b => (l i x k a b).arg m h0⟩

theorem LayC.length {g : GH} {c : Nat} : ∀ {s : Sh} {x : s.T} {cs : List Value}, LayC g c s x cs → cs.length = s.size
  | .int k, x, cs, l => by rw [l.1]; rfl
  | .bool, x, cs, l => by rw [show cs = _ from l]; rfl
  | .str, x, cs, l => by rw [l.1]; rfl
  | .unit, x, cs, l => by rw [show cs = _ from l]; rfl
  | .pair a b, x, cs, ⟨c1, c2, h, l1, l2⟩ => by subst h; rw [List.length_append, l1.length, l2.length]; rfl
  | .arr n s, xs, cs, ⟨hn, css, h, hl, l⟩ => by
    subst h
    have hc : ∀ k ∈ css, k.length = s.size := fun k hk => by
      obtain ⟨i, hi, rfl⟩ := List.mem_iff_getElem.1 hk
      exact (l i (xs[i]'(by omega)) _ (List.getElem?_eq_getElem (by omega)) (List.getElem?_eq_getElem hi)).length
    rw [flatten_len _ hc, hl]; rfl
  | .sl s, xs, cs, ⟨v, css, h, _⟩ => by subst h; rfl

/-- A slice argument: what stands in it. -/
def SlC (g : GH) (c : Nat) (s : Sh) (v : Sl) (xs : List s.T) : Prop := LayC g c (.sl s) xs [slV v]
theorem SlC.mv {K : List Nat} {g g' : GH} {c : Nat} {s : Sh} {v : Sl} {xs : List s.T} (r : SlC g c s v xs) (m : Mv K g g') (hk : c ∉ K) : SlC g' c s v xs := LayC.mv m hk r
theorem SlC.arg {K : List Nat} {g q : GH} {c : Nat} {s : Sh} {v : Sl} {xs : List s.T} (r : SlC g c s v xs) (m : Mv K g.base q) (h0 : 0 ∉ K) : SlC q 0 s v xs := LayC.arg m h0 r
theorem slV_inj {a b : Sl} (h : slV a = slV b) : a = b := by
  cases a; cases b; simp [slV] at h; obtain ⟨rfl, rfl, rfl⟩ := h; rfl
theorem LayC.sl {g : GH} {c : Nat} {s : Sh} {xs : List s.T} {cs : List Value} (l : LayC g c (.sl s) xs cs) : ∃ v : Sl, cs = [slV v] ∧ SlC g c s v xs := by
  obtain ⟨v, css, rfl, r⟩ := l
  exact ⟨v, rfl, v, css, rfl, r⟩
theorem SlC.len {g : GH} {c : Nat} {s : Sh} {v : Sl} {xs : List s.T} (r : SlC g c s v xs) : v.n = xs.length := by
  obtain ⟨v', css, h, h1, h2, _⟩ := r
  have := slV_inj (List.cons.inj h).1
  subst this
  exact h2.symm
theorem SlC.cap {g : GH} {c : Nat} {s : Sh} {v : Sl} {xs : List s.T} (r : SlC g c s v xs) : v.n ≤ v.c := by
  obtain ⟨v', css, h, h1, h2, _⟩ := r
  have := slV_inj (List.cons.inj h).1
  subst this
  exact h1
theorem SlC.small {g : GH} {c : Nat} {s : Sh} {v : Sl} {xs : List s.T} (r : SlC g c s v xs) : xs.length ≤ 140737488351232 := by
  obtain ⟨v', css, h, h1, h2, h3, h4, _⟩ := r
  omega
theorem SlC.idx {g : GH} {c : Nat} {s : Sh} {v : Sl} {xs : List s.T} {sz i : Nat} {K : Addr → Prop} (r : SlC g c s v xs) (hsz : sz = s.size) (h0 : 0 < s.size) (hi : i < xs.length)
    (H : ∀ (b o : Nat) (cs : List Value), CellsC g c b o cs → LayC g c s (xs[i]'hi) cs → K ⟨b, o, none⟩) : idxK v (i : Int) sz K := by
  obtain ⟨v', css, h, h1, h2, h3, h4, rd, l⟩ := r
  have := slV_inj (List.cons.inj h).1
  subst this
  subst hsz
  have hc : ∀ k ∈ css, k.length = s.size := fun k hk => by
    obtain ⟨i, hi, rfl⟩ := List.mem_iff_getElem.1 hk
    exact (l i (xs[i]'(by omega)) _ (List.getElem?_eq_getElem (by omega)) (List.getElem?_eq_getElem hi)).length
  have hfl := flatten_len css hc
  have hne : css.flatten ≠ [] := fun e => by
    rw [e] at hfl
    have := Nat.mul_pos (show 0 < css.length by omega) h0
    simp at hfl
    omega
  rcases rd.rd.2 with e | ⟨b, o, y, e, fz, ha, hb, hy⟩
  · exact absurd e hne
  rcases rd.col with e' | ⟨b', hb', hlt, hγ⟩
  · exact absurd e' hne
  have : b = b' := by simp [Sl.blk, ha] at hb'; exact hb'
  subst this
  refine ⟨_, ha, ⟨by omega, by omega⟩, ?_⟩
  rw [addr_add, Int.toNat_natCast]
  have hic : i < css.length := by omega
  have hL := l i _ _ (List.getElem?_eq_getElem hi) (List.getElem?_eq_getElem hic)
  refine H b (o + i * s.size) (css[i]'hic) ⟨⟨y, e, fz, hb, fun j hj => ?_⟩, hγ⟩ hL
  rw [hL.length] at hj
  have hlt2 : i * s.size + j < css.flatten.length := by
    rw [hfl]
    calc i * s.size + j < i * s.size + s.size := by omega
      _ = (i + 1) * s.size := by rw [Nat.succ_mul]
      _ ≤ css.length * s.size := Nat.mul_le_mul_right _ hic
  rw [Nat.add_assoc, hy _ hlt2, flatten_get css hc i j hj hic, List.getElem?_eq_getElem hic, Option.bind_some]

theorem flatten_singles {α β : Type} (f : α → β) : ∀ xs : List α, (xs.map fun x => [f x]).flatten = xs.map f
  | [] => rfl
  | x :: xs => by simp only [List.map_cons, List.flatten_cons, flatten_singles f xs]; rfl

/-- A row of numbers. -/
theorem SlC.ints {g : GH} {c : Nat} {k : IntKind} {v : Sl} {xs : List Int} (r : SlC g c (.int k) v xs) : RdC 1 g c v (xs.map (.int k)) ∧ ∀ x ∈ xs, k.min ≤ x ∧ x ≤ k.max := by
  obtain ⟨v', css, h, h1, h2, h3, h4, rd, l⟩ := r
  have := slV_inj (List.cons.inj h).1
  subst this
  have hcss : css = xs.map fun x => [Value.int k x] := by
    apply List.ext_getElem?
    intro i
    rw [List.getElem?_map]
    by_cases hi : i < css.length
    · have := l i (xs[i]'(by omega)) _ (List.getElem?_eq_getElem (by omega)) (List.getElem?_eq_getElem hi)
      rw [List.getElem?_eq_getElem hi, List.getElem?_eq_getElem (by omega), this.1]; rfl
    · rw [List.getElem?_eq_none (by omega), List.getElem?_eq_none (by omega)]; rfl
  refine ⟨?_, fun x hx => ?_⟩
  · have : css.flatten = xs.map (.int k) := by
      rw [hcss]; exact flatten_singles _ _
    rw [← this]
    exact rd
  · obtain ⟨i, hi, rfl⟩ := List.mem_iff_getElem.1 hx
    exact (l i _ _ (List.getElem?_eq_getElem hi) (List.getElem?_eq_getElem (show i < css.length by omega))).2
/-- Rows of bytes. -/
theorem SlC.rows {g : GH} {c : Nat} {v : Sl} {xss : List (List Int)} (r : SlC g c (.sl (.int .u8)) v xss) : RowsC g c v xss ∧ (∀ xs ∈ xss, ∀ x ∈ xs, 0 ≤ x ∧ x ≤ 255) ∧ ∀ xs ∈ xss, xs.length ≤ 140737488351232 := by
  obtain ⟨v', css, h, h1, h2, h3, h4, rd, l⟩ := r
  have := slV_inj (List.cons.inj h).1
  subst this
  obtain ⟨sls, hs1, hs2⟩ := listOf (Q := fun i (sl : Sl) => css[i]? = some [slV sl] ∧ ∀ xs, xss[i]? = some xs → SlC g c (.int .u8) sl xs) v.n (fun i hi => by
    have := l i (xss[i]'(by omega)) _ (List.getElem?_eq_getElem (by omega)) (List.getElem?_eq_getElem (show i < css.length by omega))
    obtain ⟨w, hw, hl⟩ := this.sl
    exact ⟨w, by rw [List.getElem?_eq_getElem (show i < css.length by omega), hw], fun xs hx => by rw [List.getElem?_eq_getElem (by omega)] at hx; cases hx; exact hl⟩)
  have hcss : css = sls.map fun s => [slV s] := by
    apply List.ext_getElem?
    intro i
    rw [List.getElem?_map]
    by_cases hi : i < css.length
    · have := hs2 i _ (List.getElem?_eq_getElem (show i < sls.length by omega))
      rw [this.1, List.getElem?_eq_getElem (show i < sls.length by omega)]; rfl
    · rw [List.getElem?_eq_none (by omega), List.getElem?_eq_none (by omega)]; rfl
  have hmem : ∀ xs ∈ xss, ∃ sl, SlC g c (.int .u8) sl xs := fun xs hx => by
    obtain ⟨i, hi, rfl⟩ := List.mem_iff_getElem.1 hx
    have := hs2 i _ (List.getElem?_eq_getElem (show i < sls.length by omega))
    exact ⟨_, this.2 _ (List.getElem?_eq_getElem hi)⟩
  refine ⟨⟨sls, ?_, by omega, fun i sl xs a b => ?_⟩, fun xs hx => ?_, fun xs hx => ?_⟩
  · have : css.flatten = sls.map slV := by
      rw [hcss]; exact flatten_singles _ _
    rw [← this]
    exact rd
  · have := (hs2 i sl a).2 xs b
    exact ⟨this.ints.1, this.cap⟩
  · obtain ⟨sl, h⟩ := hmem xs hx
    exact h.ints.2
  · obtain ⟨sl, h⟩ := hmem xs hx
    exact h.small

/-- An argument of many cells is made of cells. -/
theorem agg_of_trod {H : Type} {enc : TypeId × Value → H} {P : Program} {w : World} {base : Nat} {held : Bool} {t e : TypeId} {v : Value} {d : DataW H} {ps : List MemPlace} {n m : Nat} (hn : 1 < n) (ht : P.cellsOf t = n) (hu : P.underlying t = some (.array m e)) (h : DataW.Trod enc P w base (fun _ => true) held t v d ps) : ∃ c, v = .agg c := by
  obtain ⟨f, hm⟩ := h
  obtain ⟨xs, k, _, _, hl, _⟩ := DataW.trod_array hu hm
  rw [ht] at hl
  cases v <;> first
    | exact ⟨_, rfl⟩
    | (simp [Value.cells] at hl; omega)
/-- A slice of what is laid. -/
theorem SlC.of {g : GH} {c : Nat} {s : Sh} {v : Sl} {xs : List s.T} (css : List (List Value)) (h1 : v.n ≤ v.c) (h2 : xs.length = v.n) (h3 : css.length = v.n) (h4 : v.n ≤ 140737488351232) (rd : RdC s.size g c v css.flatten)
    (l : ∀ (i : Nat) (x : s.T) (k : List Value), xs[i]? = some x → css[i]? = some k → LayC g c s x k) : SlC g c s v xs := ⟨v, css, rfl, h1, h2, h3, h4, rd, l⟩
theorem SlC.one {g : GH} {c : Nat} {s : Sh} {v : Sl} {x : s.T} {k : List Value} (h1 : v.n ≤ v.c) (hn : v.n = 1) (rd : RdC s.size g c v k) (l : LayC g c s x k) : SlC g c s v [x] :=
  .of [k] h1 (by simp [hn]) (by simp [hn]) (by omega) (by simpa using rd) fun i y k' a b => by
    cases i with
    | zero => simp at a b; subst a b; exact l
    | succ i => simp at a
theorem SlC.two {g : GH} {c : Nat} {s : Sh} {v : Sl} {x y : s.T} {k k' : List Value} (h1 : v.n ≤ v.c) (hn : v.n = 2) (rd : RdC s.size g c v (k ++ k')) (l : LayC g c s x k) (l' : LayC g c s y k') : SlC g c s v [x, y] :=
  .of [k, k'] h1 (by simp [hn]) (by simp [hn]) (by omega) (by simpa using rd) fun i z w a b => by
    cases i with
    | zero => simp at a b; subst a b; exact l
    | succ i =>
      cases i with
      | zero => simp at a b; subst a b; exact l'
      | succ i => simp at a
theorem SlC.nil (g : GH) (c : Nat) (s : Sh) : SlC g c s ⟨none, 0, 0⟩ [] := .of [] (Nat.le_refl _) rfl rfl (by decide) (RdC.nil _ _ _ _ _) (by simp)
end Go.Ev
