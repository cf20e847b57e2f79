/-
  Rows of flat data: read, owned, grown, written. Nothing of a given program stands here.
-/
import Derived.Test.YtgggpnjjkcfckaaFlat
import Derived.Test.YtgggpnjjkcfckaaBuild
import Derived.Test.YtgggpnjjkcfckaaGrow
set_option linter.unusedSimpArgs false
set_option linter.unusedVariables false
namespace Go.Ev
open Go

theorem Sh.enc_one : ∀ {s : Sh}, s.flat = true → ∀ {x : s.T}, ∀ v ∈ s.enc x, v.oneCell' = true
  | .int _, _, _, v, hv => by simp [Sh.enc] at hv; subst hv; rfl
  | .bool, _, _, v, hv => by simp [Sh.enc] at hv; subst hv; rfl
  | .str, _, _, v, hv => by simp [Sh.enc] at hv; subst hv; rfl
  | .unit, _, _, v, hv => by simp [Sh.enc] at hv
  | .pair a b, h, x, v, hv => by
    simp only [Sh.flat, Bool.and_eq_true] at h
    simp only [Sh.enc, List.mem_append] at hv
    rcases hv with hv | hv
    · exact Sh.enc_one h.1 v hv
    · exact Sh.enc_one h.2 v hv
  | .arr _ s, h, xs, v, hv => by
    simp only [Sh.enc, List.mem_flatMap] at hv
    obtain ⟨x, _, hv⟩ := hv
    exact Sh.enc_one (s := s) h v hv
  | .sl _, h, _, _, _ => by cases h

theorem encs_one {s : Sh} (fl : s.flat = true) (xs : List s.T) : ∀ v ∈ xs.flatMap s.enc, v.oneCell' = true := fun v hv => by
  obtain ⟨x, _, hv⟩ := List.mem_flatMap.1 hv
  exact Sh.enc_one fl v hv
theorem encs_len {s : Sh} (fl : s.flat = true) {xs : List s.T} (h : ∀ x ∈ xs, s.ok x) : (xs.flatMap s.enc).length = xs.length * s.size := flatMap_len fun x hx => Sh.enc_length fl (h x hx)

/-- A row of flat data, read. -/
theorem SlC.rdF {g : GH} {c : Nat} {s : Sh} {v : Sl} {xs : List s.T} (fl : s.flat = true) (r : SlC g c s v xs) : RdC s.size g c v (xs.flatMap s.enc) ∧ ∀ x ∈ xs, s.ok x := by
  obtain ⟨v', css, h, h1, h2, h3, h4, rd, l⟩ := r
  have := slV_inj (List.cons.inj h).1
  subst this
  have hx : ∀ i (hi : i < xs.length), css[i]? = some (s.enc xs[i]) ∧ s.ok xs[i] := fun i hi => by
    have := LayC.enc fl (l i _ _ (List.getElem?_eq_getElem hi) (List.getElem?_eq_getElem (show i < css.length by omega)))
    exact ⟨by rw [List.getElem?_eq_getElem (show i < css.length by omega), this.1], this.2⟩
  have hcss : css = xs.map s.enc := by
    apply List.ext_getElem?
    intro i
    by_cases hi : i < xs.length
    · rw [(hx i hi).1, List.getElem?_map, List.getElem?_eq_getElem hi]; rfl
    · rw [List.getElem?_eq_none (by omega), List.getElem?_eq_none (by simp; omega)]
  refine ⟨?_, fun x hxm => ?_⟩
  · rw [hcss] at rd
    exact rd
  · obtain ⟨i, hi, rfl⟩ := List.mem_iff_getElem.1 hxm
    exact (hx i hi).2
theorem SlC.ofF {g : GH} {c : Nat} {s : Sh} {v : Sl} {xs : List s.T} (fl : s.flat = true) (r : RdC s.size g c v (xs.flatMap s.enc)) (ok : ∀ x ∈ xs, s.ok x) (hn : v.n = xs.length) (hc : v.n ≤ v.c) (hs : xs.length ≤ 140737488351232) : SlC g c s v xs := by
  refine .of (xs.map s.enc) hc hn.symm (by simp [hn]) (by omega) r fun i x k a b => ?_
  rw [List.getElem?_map, a] at b
  simp at b
  subst b
  exact LayC.ofEnc fl (ok x (List.mem_of_getElem? a))

/-- An element, whole. -/
theorem loadF {g : GH} {c b o n : Nat} {s : Sh} {x : s.T} (hcs : CellsC g c b o (s.enc x)) (hn : n = s.size) (h0 : 0 < s.size) (hl : (s.enc x).length = s.size) {K : Array Value → Prop} (hK : K ⟨s.enc x⟩) : loadAggK n g.h (some ⟨b, o, none⟩) K := by
  refine loadAggK_cells (j := 0) hcs rfl (by omega) (by omega) ?_
  rw [List.drop_zero, List.take_of_length_le (by omega)]
  exact hK
theorem stillF {g : GH} {c b o n : Nat} {s : Sh} {x : s.T} (hcs : CellsC g c b o (s.enc x)) (hn : n = s.size) (h0 : 0 < s.size) (hl : (s.enc x).length = s.size) : stillAggK n g.h (some ⟨b, o, none⟩) ⟨s.enc x⟩ := loadF hcs hn h0 hl rfl
theorem SlC.idxF {g : GH} {c : Nat} {s : Sh} {v : Sl} {xs : List s.T} {sz i : Nat} {K : Addr → Prop} (fl : s.flat = true) (r : SlC g c s v xs) (hsz : sz = s.size) (h0 : 0 < s.size) (hi : i < xs.length)
    (H : ∀ (b o : Nat), CellsC g c b o (s.enc xs[i]) → s.ok xs[i] → (s.enc xs[i]).length = s.size → K ⟨b, o, none⟩) : idxK v (i : Int) sz K :=
  r.idx hsz h0 hi fun b o cs hcs lay => by
    obtain ⟨rfl, ok⟩ := LayC.enc fl lay
    exact H b o hcs ok (Sh.enc_length fl ok)

/-- A row of flat data that may be written to and grown. -/
structure OwnF (e : TypeId) (s : Sh) (g : GH) (c : Nat) (v : Sl) (xs : List s.T) : Prop where
  own : OwnC e s.size g c v (xs.flatMap s.enc)
  ok : ∀ x ∈ xs, s.ok x
  len : v.n = xs.length
theorem OwnF.mv {K : List Nat} {e : TypeId} {s : Sh} {g g' : GH} {c : Nat} {v : Sl} {xs : List s.T} (r : OwnF e s g c v xs) (m : Mv K g g') (hk : c ∉ K) : OwnF e s g' c v xs := ⟨r.own.mv m hk, r.ok, r.len⟩
theorem OwnF.base {e : TypeId} {s : Sh} {g : GH} {c : Nat} {v : Sl} {xs : List s.T} (r : OwnF e s g c v xs) : OwnF e s g.base 0 v xs := ⟨r.own.base, r.ok, r.len⟩
theorem OwnF.via {K : List Nat} {e : TypeId} {s : Sh} {g q : GH} {k : Nat} {v : Sl} {xs : List s.T} (r : OwnF e s q k v xs) (m : Mv K g.base q) (hk : k ≠ 0) (φ : Nat → Nat) : OwnF e s (g.via q φ) (φ k) v xs := ⟨r.own.via m hk φ, r.ok, r.len⟩
theorem OwnF.re {K : List Nat} {e : TypeId} {s : Sh} {g q : GH} {k : Nat} {v : Sl} {xs : List s.T} (r : OwnF e s q k v xs) (m : Mv K g q) {φ : Nat → Nat} (h : φ k = k ∨ Fresh g k) : OwnF e s (g.via q φ) (φ k) v xs := ⟨r.own.re m h, r.ok, r.len⟩
theorem OwnF.cap {e : TypeId} {s : Sh} {g : GH} {c : Nat} {v : Sl} {xs : List s.T} (r : OwnF e s g c v xs) : v.n ≤ v.c := r.own.cap
theorem OwnF.nil (e : TypeId) (s : Sh) (g : GH) (c : Nat) : OwnF e s g c ⟨none, 0, 0⟩ [] := ⟨OwnC.nil _ _ _ _, by simp, rfl⟩
theorem OwnF.slc {e : TypeId} {s : Sh} {g : GH} {c : Nat} {v : Sl} {xs : List s.T} (fl : s.flat = true) (r : OwnF e s g c v xs) (hs : xs.length ≤ 140737488351232) : SlC g c s v xs := .ofF fl r.own.rd r.ok r.len r.cap hs
theorem OwnF.plain {e : TypeId} {s : Sh} {g : GH} {c : Nat} {v : Sl} {xs : List s.T} (r : OwnF e s g c v xs) : v.plain := r.own.plain

theorem flatMap_take {α β : Type} {f : α → List β} {k : Nat} : ∀ {xs : List α} (n : Nat), (∀ x ∈ xs, (f x).length = k) → (xs.take n).flatMap f = (xs.flatMap f).take (n * k)
  | [], n, _ => by simp
  | x :: xs, 0, _ => by simp
  | x :: xs, n + 1, h => by
    have h1 := h x List.mem_cons_self
    rw [List.take_succ_cons, List.flatMap_cons, List.flatMap_cons, flatMap_take n fun y hy => h y (List.mem_cons_of_mem _ hy), Nat.succ_mul, Nat.add_comm, ← h1, List.take_length_add_append]
theorem flatMap_drop {α β : Type} {f : α → List β} {k : Nat} : ∀ {xs : List α} (n : Nat), (∀ x ∈ xs, (f x).length = k) → (xs.drop n).flatMap f = (xs.flatMap f).drop (n * k)
  | [], n, _ => by simp
  | x :: xs, 0, _ => by simp
  | x :: xs, n + 1, h => by
    have h1 := h x List.mem_cons_self
    rw [List.drop_succ_cons, List.flatMap_cons, flatMap_drop n fun y hy => h y (List.mem_cons_of_mem _ hy), Nat.succ_mul, Nat.add_comm, ← h1, List.drop_length_add_append]

/-- The first n of a row that one owns. -/
theorem OwnF.take {e : TypeId} {s : Sh} {g : GH} {c : Nat} {v : Sl} {xs : List s.T} (fl : s.flat = true) (r : OwnF e s g c v xs) {n k : Nat} (hn : n ≤ xs.length) (hk : n ≤ k) (hkc : k ≤ v.c) : OwnF e s g c ⟨v.a, n, k⟩ (xs.take n) := by
  have hlen : ∀ x ∈ xs, (s.enc x).length = s.size := fun x hx => Sh.enc_length fl (r.ok x hx)
  refine ⟨⟨⟨?_, hk, ?_⟩, r.own.col⟩, fun x hx => r.ok x (List.mem_of_mem_take hx), by simp; omega⟩
  · rw [flatMap_take n hlen, List.length_take, encs_len fl r.ok]
    have := Nat.mul_le_mul_right s.size hn
    show min (n * s.size) (xs.length * s.size) = n * s.size
    omega
  · rcases r.own.own.2.2 with ⟨ha, hc⟩ | ⟨b, o, cs, ha, hb, hroom, hcs⟩
    · exact .inl ⟨ha, by show k = 0; omega⟩
    · refine .inr ⟨b, o, cs, ha, hb, ?_, fun i hi => ?_⟩
      · have := Nat.mul_le_mul_right s.size hkc
        show o + k * s.size ≤ cs.size
        omega
      · rw [flatMap_take n hlen] at hi ⊢
        rw [List.length_take] at hi
        rw [hcs i (by omega), List.getElem?_take_of_lt (by omega)]

section
variable {P : Program}

theorem appendF_C {e e2 sT xT rT : TypeId} {s : Sh} {by_ : Nat} {z : Value} (fl : s.flat = true) (hsT : P.underlying sT = some (.slice e)) (hdx : P.underlying xT = some (.slice e2))
    (hi : (P.info? e).map (fun i => (i.zero, i.size, i.bytes)) = some (some z, s.size, by_)) (hzs : z.cells.size = s.size) (hby : by_ ≤ 4096)
    {g : GH} {c d : Nat} {v w : Sl} {xs ys : List s.T} (hs : OwnF e s g c v xs) (hx : SlC g d s w ys) (hlen : v.n + w.n ≤ 1000000000) {K : Sl → Heap → Prop}
    (hK : ∀ (v' : Sl) (g' : GH), Mv [c] g g' → OwnF e s g' c v' (xs ++ ys) → K v' g'.h) :
    opK P .slice (Builtin.append_ #[sT, xT] rT #[.slice v.a v.n v.c, .slice w.a w.n w.c]) K g.h := by
  obtain ⟨hr, hok⟩ := hx.rdF fl
  refine append_C hsT hdx hi hzs hby hs.own hr.rd (encs_one fl ys) hlen fun v' g' m o hn _ => ?_
  refine hK v' g' m ⟨by rw [List.flatMap_append]; exact o, fun x hx => ?_, by rw [hn, hs.len, hx.len, List.length_append]⟩
  rcases List.mem_append.1 hx with hx | hx
  · exact hs.ok x hx
  · exact hok x hx

theorem makeRows_run {e t : TypeId} {by_ sz : Nat} {z : Value} (ht : P.underlying t = some (.slice e)) (hi : (P.info? e).map (fun i => (i.zero, i.size, i.bytes)) = some (some z, sz, by_)) (hby : by_ ≤ 4096)
    {l c : Nat} {kl kc : IntKind} (hlc : l ≤ c) (hc : c ≤ 1000000000) (w : World) : ∃ cells : Array Value, cells.size = c * sz ∧
      (Instr.makeSlice t (.int kl (l : Int)) (.int kc (c : Int))).run P w = .ok (.slice (some ⟨w.heap.size, 0, none⟩) l c) { w with heap := w.heap.push (.cells cells e (0, 0)) } := by
  cases hq : P.info? e with
  | none => rw [hq] at hi; cases hi
  | some i =>
    rw [hq] at hi
    simp only [Option.map_some, Option.some.injEq, Prod.mk.injEq] at hi
    obtain ⟨h1, h2, h3⟩ := hi
    have wl : IntKind.i64.wrap (l : Int) = (l : Int) := wrapI64 (by omega) (by omega)
    have wc : IntKind.i64.wrap (c : Int) = (c : Int) := wrapI64 (by omega) (by omega)
    have hbc : i.bytes * c ≤ 4096 * 1000000000 := Nat.mul_le_mul (by omega) hc
    have hbc' : ((i.bytes : Int) * (c : Int)) ≤ 4096000000000 := by rw [← Int.natCast_mul]; exact Int.ofNat_le.2 (by omega)
    have hask : ∀ n : Nat, (askRoom n).run P w = .ok () w := fun n => by unfold askRoom; split <;> simp [mark, Sem.run]
    unfold Instr.makeSlice
    simp only [Sem.run_bind, run_underlying ht, Result.andThen_ok, asInt, asIntOf, Sem.run_pure, run_typeInfo hq, wl, wc]
    have hc1 : (decide ((c : Int) < 0) || decide ((i.bytes : Int) * (c : Int) > 2 ^ 48)) = false := by
      have h1 : decide ((c : Int) < 0) = false := by simp
      have h48 : (2 : Int) ^ 48 = 281474976710656 := by decide
      have h2 : decide ((i.bytes : Int) * (c : Int) > 2 ^ 48) = false := decide_eq_false (by rw [h48]; omega)
      rw [h1, h2]; rfl
    have hc2 : decide ((l : Int) < 0) = false := by simp
    have hc3 : decide ((l : Int) > (c : Int)) = false := by simp; omega
    simp only [hc1, hc2, hc3, Bool.false_or, Bool.or_false, Bool.false_eq_true, if_false, hask, Sem.run_bind, Sem.run_pure, Result.andThen_ok, Int.toNat_natCast]
    have hsize : (sizeOf e).run P w = .ok sz w := by simp [sizeOf, run_typeInfo hq, h2]
    have hzv : (zeroValue e).run P w = .ok z w := by simp [zeroValue, run_typeInfo hq, h1]
    simp only [hsize, Result.andThen_ok]
    by_cases h0 : c * sz = 0
    · exact ⟨(Array.range (c * sz)).map fun _ => default, by simp, by simp [h0, newRow, newObj, Sem.run]⟩
    · exact ⟨(Array.range (c * sz)).map fun x => z.cells[x % z.cells.size]!, by simp, by simp [h0, hzv, newRow, newObj, Sem.run]⟩

/-- 'make([]T, 0, c)', an element being some cells. -/
theorem makeF_C {e t : TypeId} {s : Sh} {by_ : Nat} {z : Value} (ht : P.underlying t = some (.slice e)) (hi : (P.info? e).map (fun i => (i.zero, i.size, i.bytes)) = some (some z, s.size, by_)) (hby : by_ ≤ 4096)
    (g : GH) (k : Nat) {c : Nat} {kl kc : IntKind} (hc : c ≤ 1000000000) {K : Sl → Heap → Prop}
    (hK : ∀ (v : Sl) (g' : GH), Mv [] g g' → OwnF e s g' k v [] → v.c = c → K v g'.h) :
    opK P .slice (Instr.makeSlice t (.int kl ((0 : Nat) : Int)) (.int kc (c : Int))) K g.h := by
  intro w hw
  obtain ⟨cells, hcl, hrun⟩ := makeRows_run ht hi hby (l := 0) (kl := kl) (kc := kc) (Nat.zero_le _) hc w
  refine ⟨⟨some ⟨w.heap.size, 0, none⟩, 0, c⟩, _, hrun, ⟨rfl, rfl, rfl⟩, ?_⟩
  rw [hw]
  refine hK _ (g.to _ k) (GH.to_ext k (Ext.push _ _)) ⟨⟨⟨by simp, Nat.zero_le _, .inr ⟨g.h.size, 0, cells, rfl, push_last _ _, ?_, fun i hi => by simp at hi⟩⟩, fun b hb => ?_⟩, by simp, rfl⟩ rfl
  · show 0 + c * s.size ≤ cells.size; omega
  · simp [Sl.blk] at hb
    subst hb
    exact g.to_new _ _ _ (Nat.le_refl _)

theorem overA_get {cells : Array Value} {o : Nat} {vs : List Value} {j : Nat} (h : o + vs.length ≤ cells.size) : (overA cells o vs)[j]? = if j < o then cells[j]? else if j < o + vs.length then vs[j - o]? else cells[j]? := by
  unfold overA
  simp only [List.getElem?_toArray]
  have h1 : (cells.toList.take o).length = o := by simp; omega
  by_cases ha : j < o
  · rw [if_pos ha, List.append_assoc, List.getElem?_append_left (by omega), List.getElem?_take_of_lt ha, Array.getElem?_toList]
  · rw [if_neg ha, List.append_assoc, List.getElem?_append_right (by omega), h1]
    by_cases hb : j < o + vs.length
    · rw [if_pos hb, List.getElem?_append_left (by omega)]
    · rw [if_neg hb, List.getElem?_append_right (by omega), List.getElem?_drop, Array.getElem?_toList]
      congr 1
      omega

theorem flatMap_get {α β : Type} {f : α → List β} {k : Nat} {xs : List α} (h : ∀ x ∈ xs, (f x).length = k) (hk : 0 < k) (j : Nat) : (xs.flatMap f)[j]? = (xs[j / k]?).bind fun x => (f x)[j % k]? := by
  have e : xs.flatMap f = (xs.map f).flatten := by simp [List.flatMap]
  have hl : (xs.flatMap f).length = xs.length * k := flatMap_len h
  by_cases hj : j / k < xs.length
  · rw [e]
    have := flatten_get (xs.map f) (sz := k) (fun c hc => by obtain ⟨x, hx, rfl⟩ := List.mem_map.1 hc; exact h x hx) (j / k) (j % k) (Nat.mod_lt _ hk) (by simpa using hj)
    rw [Nat.mul_comm, Nat.div_add_mod] at this
    rw [this, List.getElem?_map]
    cases xs[j / k]? <;> rfl
  · rw [List.getElem?_eq_none (by rw [hl]; exact Nat.not_lt.1 fun hlt => hj ((Nat.div_lt_iff_lt_mul hk).2 hlt)), List.getElem?_eq_none (show xs.length ≤ j / k by omega)]
    rfl

/-- An element of an owned row is written. -/
theorem idxStoreF {e : TypeId} {s : Sh} {g : GH} {c sz i : Nat} {v : Sl} {xs : List s.T} {y : s.T} {K : Heap → Prop} (fl : s.flat = true) (r : OwnF e s g c v xs) (hsz : sz = s.size) (h0 : 0 < s.size) (hi : i < xs.length) (hy : s.ok y)
    (hK : ∀ g' : GH, Mv [c] g g' → OwnF e s g' c v (xs.set i y) → K g'.h) : idxK v (i : Int) sz (fun a => storeAggK sz g.h (some a) ⟨s.enc y⟩ K) := by
  subst hsz
  have hlen : ∀ x ∈ xs, (s.enc x).length = s.size := fun x hx => Sh.enc_length fl (r.ok x hx)
  have hyl := Sh.enc_length fl hy
  have hn := r.len
  have hcap := r.cap
  rcases r.own.own.2.2 with ⟨ha, hc⟩ | ⟨b, o, cs, ha, hb, hroom, hcs⟩
  · omega
  · have hcol := r.own.col b (by simp [Sl.blk, ha])
    have hle : (i + 1) * s.size ≤ v.c * s.size := Nat.mul_le_mul_right _ (by omega)
    rw [Nat.succ_mul] at hle
    refine ⟨_, ha, ⟨by omega, by omega⟩, ?_⟩
    rw [addr_add, Int.toNat_natCast]
    refine storeAgg_C (e := e) ⟨hb, hcol⟩ (by simpa using hyl) (by omega) (fun w hw => Sh.enc_one fl w (by simpa using hw)) fun g' m b' => ?_
    have hok : ∀ x ∈ xs.set i y, s.ok x := fun x hx => by
      rcases List.mem_or_eq_of_mem_set hx with hx | rfl
      · exact r.ok x hx
      · exact hy
    refine hK g' m ⟨⟨⟨?_, hcap, .inr ⟨b, o, _, ha, b'.blk, ?_, ?_⟩⟩, fun b2 hb2 => ?_⟩, hok, by simpa using hn⟩
    · rw [encs_len fl hok, List.length_set, hn]
    · have : (overA cs (o + i * s.size) (s.enc y)).size = cs.size := by
        simp only [overA, List.size_toArray, List.length_append, List.length_take, List.length_drop, Array.length_toList, hyl]; omega
      rw [this]; exact hroom
    · intro j hj
      rw [encs_len fl hok, List.length_set] at hj
      rw [overA_get (by rw [hyl]; omega), hyl]
      have hol := encs_len fl r.ok
      rw [flatMap_get (fun x hx => Sh.enc_length fl (hok x hx)) h0]
      have hq : j / s.size < xs.length := (Nat.div_lt_iff_lt_mul h0).2 hj
      have hdm := Nat.div_add_mod j s.size
      have hml := Nat.mod_lt j h0
      by_cases hji : j / s.size = i
      · have e1 : j = i * s.size + j % s.size := by rw [← hji, Nat.mul_comm]; exact hdm.symm
        rw [if_neg (by omega), if_pos (by omega)]
        have e2 : o + j - (o + i * s.size) = j % s.size := by omega
        rw [e2, hji, List.getElem?_set_self hi]
        rfl
      · have e3 : (xs.set i y)[j / s.size]? = xs[j / s.size]? := List.getElem?_set_ne (by omega)
        rw [e3, ← flatMap_get hlen h0, ← hcs j (by omega)]
        rcases Nat.lt_or_gt_of_ne hji with h | h
        · have : (j / s.size + 1) * s.size ≤ i * s.size := Nat.mul_le_mul_right _ h
          rw [Nat.succ_mul, Nat.mul_comm] at this
          rw [if_pos (by omega)]
        · have : (i + 1) * s.size ≤ j / s.size * s.size := Nat.mul_le_mul_right _ h
          rw [Nat.succ_mul, Nat.mul_comm (j / s.size)] at this
          rw [if_neg (by omega), if_neg (by omega)]
    · rw [m.col b2 (by have := (Sl.blk v); rw [show b2 = b from by simp [Sl.blk, ha] at hb2; exact hb2.symm]; exact lt_of_get hb)]
      exact r.own.col b2 hb2
/-- An element of an owned row is written, whatever stands in the row. -/
theorem idxStoreRaw {e : TypeId} {g : GH} {c sz sz' i : Nat} {v : Sl} {vs new : List Value} {K : Heap → Prop} (r : OwnC e sz g c v vs) (hsz : sz' = sz) (h0 : 0 < sz) (hi : i < v.n) (hy : new.length = sz) (hone : ∀ w ∈ new, w.oneCell' = true)
    (hK : ∀ (ws : List Value) (g' : GH), Mv [c] g g' → OwnC e sz g' c v ws → K g'.h) : idxK v (i : Int) sz' (fun a => storeAggK sz' g.h (some a) ⟨new⟩ K) := by
  subst hsz
  have hcap := r.cap
  rcases r.own.2.2 with ⟨ha, hc⟩ | ⟨b, o, cs, ha, hb, hroom, hcs⟩
  · omega
  · have hcol := r.col b (by simp [Sl.blk, ha])
    have hle : (i + 1) * sz' ≤ v.c * sz' := Nat.mul_le_mul_right _ (by omega)
    rw [Nat.succ_mul] at hle
    refine ⟨_, ha, ⟨by omega, by omega⟩, ?_⟩
    rw [addr_add, Int.toNat_natCast]
    refine storeAgg_C (e := e) ⟨hb, hcol⟩ (by simpa using hy) (by omega) (fun w hw => hone w (by simpa using hw)) fun g' m b' => ?_
    have hs : (overA cs (o + i * sz') new).size = cs.size := by
      simp only [overA, List.size_toArray, List.length_append, List.length_take, List.length_drop, Array.length_toList, hy]; omega
    have hnc : v.n * sz' ≤ v.c * sz' := Nat.mul_le_mul_right _ hcap
    have hl : (((overA cs (o + i * sz') new).toList.drop o).take (v.n * sz')).length = v.n * sz' := by
      rw [List.length_take, List.length_drop, Array.length_toList, hs]; omega
    refine hK (((overA cs (o + i * sz') new).toList.drop o).take (v.n * sz')) g' m ⟨⟨hl, hcap, .inr ⟨b, o, _, ha, b'.blk, by rw [hs]; exact hroom, fun j hj => ?_⟩⟩, fun b2 hb2 => ?_⟩
    · rw [hl] at hj
      rw [List.getElem?_take_of_lt hj, List.getElem?_drop, Array.getElem?_toList]
    · rw [m.col b2 (by rw [show b2 = b from by simp [Sl.blk, ha] at hb2; exact hb2.symm]; exact lt_of_get hb)]
      exact r.col b2 hb2
theorem OwnC.grow {e : TypeId} {sz : Nat} {g : GH} {c : Nat} {s : Sl} {vs : List Value} (r : OwnC e sz g c s vs) {m : Nat} (hm : m ≤ s.c) : ∃ ws, OwnC e sz g c ⟨s.a, m, s.c⟩ ws := by
  rcases r.own.2.2 with ⟨ha, hc⟩ | ⟨b, o, cs, ha, hb, hroom, hcs⟩
  · exact ⟨[], ⟨by have : m = 0 := by omega
                   simp [this], hm, .inl ⟨ha, hc⟩⟩, r.col⟩
  · have hmc : m * sz ≤ s.c * sz := Nat.mul_le_mul_right _ hm
    have hl : ((cs.toList.drop o).take (m * sz)).length = m * sz := by
      rw [List.length_take, List.length_drop, Array.length_toList]; omega
    refine ⟨(cs.toList.drop o).take (m * sz), ⟨hl, hm, .inr ⟨b, o, cs, ha, hb, hroom, fun j hj => ?_⟩⟩, r.col⟩
    rw [hl] at hj
    rw [List.getElem?_take_of_lt hj, List.getElem?_drop, Array.getElem?_toList]
end

/-- A row lent: behind its end, in its room, marks. -/
structure LentF (e : TypeId) (s : Sh) (ms : List s.T) (g : GH) (c : Nat) (v : Sl) (xs : List s.T) : Prop where
  own : OwnF e s g c ⟨v.a, v.n + ms.length, v.c⟩ (xs ++ ms)
  len : v.n = xs.length
theorem LentF.mv {K : List Nat} {e : TypeId} {s : Sh} {ms : List s.T} {g g' : GH} {c : Nat} {v : Sl} {xs : List s.T} (r : LentF e s ms g c v xs) (m : Mv K g g') (hk : c ∉ K) : LentF e s ms g' c v xs := ⟨r.own.mv m hk, r.len⟩
theorem LentF.re {K : List Nat} {e : TypeId} {s : Sh} {ms : List s.T} {g q : GH} {k : Nat} {v : Sl} {xs : List s.T} (r : LentF e s ms q k v xs) (m : Mv K g q) {φ : Nat → Nat} (h : φ k = k ∨ Fresh g k) : LentF e s ms (g.via q φ) (φ k) v xs := ⟨r.own.re m h, r.len⟩
theorem LentF.base {e : TypeId} {s : Sh} {ms : List s.T} {g : GH} {k : Nat} {v : Sl} {xs : List s.T} (r : LentF e s ms g k v xs) : LentF e s ms g.base 0 v xs := ⟨r.own.base, r.len⟩
theorem LentF.cap {e : TypeId} {s : Sh} {ms : List s.T} {g : GH} {c : Nat} {v : Sl} {xs : List s.T} (r : LentF e s ms g c v xs) : v.n + ms.length ≤ v.c := r.own.cap
theorem LentF.owned {e : TypeId} {s : Sh} {ms : List s.T} {g : GH} {c : Nat} {v : Sl} {xs : List s.T} (fl : s.flat = true) (r : LentF e s ms g c v xs) : OwnF e s g c v xs := by
  have hc := r.cap
  have h := r.own.take fl (n := v.n) (k := v.c) (by rw [r.len]; simp) (by omega) (Nat.le_refl _)
  rw [r.len, List.take_left] at h
  obtain ⟨a, n, k⟩ := v
  have hn := r.len
  dsimp only at hn h
  subst hn
  exact h
theorem LentF.slc {e : TypeId} {s : Sh} {ms : List s.T} {g : GH} {c : Nat} {v : Sl} {xs : List s.T} (fl : s.flat = true) (r : LentF e s ms g c v xs) (hs : xs.length ≤ 140737488351232) : SlC g c s v xs := (r.owned fl).slc fl hs
end Go.Ev
