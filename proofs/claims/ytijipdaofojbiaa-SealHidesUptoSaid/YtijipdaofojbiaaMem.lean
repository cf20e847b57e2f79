/-
  Memory in plain words: slices that read as rows of values, rows that a call owns, what stays when something is written. Nothing of a given program stands here.
-/
import Derived.Test.YtijipdaofojbiaaEv
set_option linter.unusedSimpArgs false
set_option linter.unusedVariables false
namespace Go.Ev
open Go

/-! ### Whole numbers -/

theorem wrapI64 {n : Int} (h1 : -9223372036854775808 ≤ n) (h2 : n ≤ 9223372036854775807) : IntKind.i64.wrap n = n := by
  simp only [IntKind.wrap, IntKind.bits, IntKind.signed]; simp; omega
theorem wrapU64 {n : Int} (h1 : 0 ≤ n) (h2 : n < 18446744073709551616) : IntKind.u64.wrap n = n := by
  simp only [IntKind.wrap, IntKind.bits, IntKind.signed]; simp; omega
theorem wrapU32 {n : Int} (h1 : 0 ≤ n) (h2 : n < 4294967296) : IntKind.u32.wrap n = n := by
  simp only [IntKind.wrap, IntKind.bits, IntKind.signed]; simp; omega
theorem wrapU32_mod (n : Int) : IntKind.u32.wrap n = n % 4294967296 := by
  simp only [IntKind.wrap, IntKind.bits, IntKind.signed]; simp
theorem wrapU64_mod (n : Int) : IntKind.u64.wrap n = n % 18446744073709551616 := by
  simp only [IntKind.wrap, IntKind.bits, IntKind.signed]; simp
theorem wrapU8_mod (n : Int) : IntKind.u8.wrap n = n % 256 := by
  simp only [IntKind.wrap, IntKind.bits, IntKind.signed]; simp

theorem wrapSucc {i : Nat} (h : i < 9223372036854775807) : IntKind.i64.wrap ((i : Int) + 1) = ((i + 1 : Nat) : Int) := by
  rw [wrapI64 (by omega) (by omega)]; rfl

/-! ### What stays -/

/-- But for blocks of S, all that was there is as it was. -/
def Frm (S : Nat → Prop) (h h' : Heap) : Prop := h.size ≤ h'.size ∧ ∀ b, b < h.size → ¬ S b → h'[b]? = h[b]?

/-- All that was there is as it was. -/
abbrev Ext (h h' : Heap) : Prop := Frm (fun _ => False) h h'

theorem Frm.refl (S : Nat → Prop) (h : Heap) : Frm S h h := ⟨Nat.le_refl _, fun _ _ _ => rfl⟩
theorem Frm.trans {S : Nat → Prop} {a b c : Heap} (h : Frm S a b) (k : Frm S b c) : Frm S a c :=
  ⟨Nat.le_trans h.1 k.1, fun i hi hs => (k.2 i (Nat.lt_of_lt_of_le hi h.1) hs).trans (h.2 i hi hs)⟩
theorem Frm.mono {S T : Nat → Prop} {a b : Heap} (h : Frm S a b) (hs : ∀ i, i < a.size → S i → T i) : Frm T a b := ⟨h.1, fun i hi ht => h.2 i hi fun x => ht (hs i hi x)⟩
/-- The second step may write to what is new since the first. -/
theorem Frm.trans' {S T : Nat → Prop} {a b c : Heap} (h : Frm S a b) (k : Frm T b c) (hs : ∀ i, i < a.size → T i → S i) : Frm S a c :=
  ⟨Nat.le_trans h.1 k.1, fun i hi hn => (k.2 i (Nat.lt_of_lt_of_le hi h.1) fun x => hn (hs i hi x)).trans (h.2 i hi hn)⟩
theorem Ext.push (h : Heap) (o : Obj) : Ext h (h.push o) := by
  refine ⟨by simp, fun b hb _ => ?_⟩
  rw [Array.getElem?_push]
  rw [if_neg (by omega)]
theorem Ext.frm {S : Nat → Prop} {a b : Heap} (h : Ext a b) : Frm S a b := h.mono fun _ _ x => x.elim
theorem Frm.get {S : Nat → Prop} {h h' : Heap} (f : Frm S h h') {b : Nat} {o : Obj} (hb : h[b]? = some o) (hs : ¬ S b) : h'[b]? = some o := by
  rw [f.2 b (Array.getElem?_eq_some_iff.1 hb).1 hs]; exact hb
theorem push_last (h : Heap) (o : Obj) : (h.push o)[h.size]? = some o := by simp
theorem lt_of_get {h : Heap} {b : Nat} {o : Obj} (hb : h[b]? = some o) : b < h.size := (Array.getElem?_eq_some_iff.1 hb).1

theorem setBlk_self {h : Heap} {b : Nat} {c c' : Array Value} {e : TypeId} (hb : Blk h b c e) : Blk (setBlk h b c' e) b c' e := by
  unfold Blk setBlk
  rw [Array.getElem?_setIfInBounds]
  simp [lt_of_get hb]
theorem setBlk_other {h : Heap} {b b' : Nat} {c' : Array Value} {e : TypeId} (hn : b ≠ b') : (setBlk h b c' e)[b']? = h[b']? := by
  unfold setBlk
  rw [Array.getElem?_setIfInBounds]
  simp [hn]
theorem setBlk_size (h : Heap) (b : Nat) (c' : Array Value) (e : TypeId) : (setBlk h b c' e).size = h.size := by simp [setBlk]
theorem Frm.setBlk (h : Heap) (b : Nat) (c' : Array Value) (e : TypeId) : Frm (· = b) h (setBlk h b c' e) :=
  ⟨by rw [setBlk_size]; exact Nat.le_refl _, fun i _ hn => setBlk_other (fun x => hn x.symm)⟩

/-! ### Slices that are read -/

/-- From s on (elements of sz cells) memory reads vs, cell by cell. -/
def Rd (sz : Nat) (h : Heap) (s : Sl) (vs : List Value) : Prop :=
  vs.length = s.n * sz ∧ (vs = [] ∨ ∃ b o c e fz, s.a = some ⟨b, o, none⟩ ∧ h[b]? = some (.cells c e fz) ∧ ∀ i, i < vs.length → c[o + i]? = vs[i]?)

/-- The block in which a slice lies. -/
def Sl.blk (s : Sl) : Option Nat := s.a.map (·.block)

theorem Rd.nil (sz : Nat) (h : Heap) (a : Option Addr) (c : Nat) : Rd sz h ⟨a, 0, c⟩ [] := ⟨by simp, .inl rfl⟩

theorem Rd.frm {S : Nat → Prop} {sz : Nat} {h h' : Heap} {s : Sl} {vs : List Value} (r : Rd sz h s vs) (f : Frm S h h') (hs : ∀ b, s.blk = some b → ¬ S b) : Rd sz h' s vs := by
  refine ⟨r.1, ?_⟩
  rcases r.2 with r | ⟨b, o, c, e, fz, ha, hb, hc⟩
  · exact .inl r
  · exact .inr ⟨b, o, c, e, fz, ha, f.get hb (hs b (by simp [Sl.blk, ha])), hc⟩
theorem Rd.ext {sz : Nat} {h h' : Heap} {s : Sl} {vs : List Value} (r : Rd sz h s vs) (f : Ext h h') : Rd sz h' s vs := r.frm f fun _ _ x => x

theorem Rd.len {h : Heap} {s : Sl} {vs : List Value} (r : Rd 1 h s vs) : s.n = vs.length := by have := r.1; omega

/-- A new row. -/
theorem Rd.new (h : Heap) (cells : Array Value) (e : TypeId) (n c : Nat) (hn : cells.size = n) : Rd 1 (h.push (.cells cells e (0, 0))) ⟨some ⟨h.size, 0, none⟩, n, c⟩ cells.toList :=
  ⟨by simp [hn], .inr ⟨h.size, 0, cells, e, (0, 0), rfl, push_last _ _, fun i hi => by simp⟩⟩

/-- An element is read. -/
theorem idxLoad {sz : Nat} {k : Kd} {h : Heap} {s : Sl} {vs : List Value} {i : Int} {K : k.T → Prop} (r : Rd 1 h s vs) (hsz : sz = 1) (h0 : 0 ≤ i) (x : k.T) (hx : vs[i.toNat]? = some (k.inj x)) (hK : K x) :
    idxK s i sz (fun a => loadK k h (some a) K) := by
  subst hsz
  have hlt : i.toNat < vs.length := (List.getElem?_eq_some_iff.1 hx).1
  rcases r.2 with hn | ⟨b, o, c, e, fz, ha, hb, hc⟩
  · subst hn; simp at hlt
  · refine ⟨_, ha, ⟨h0, by rw [r.len]; omega⟩, b, o + i.toNat, c, e, fz, x, ?_, hb, ?_, hK⟩
    · rw [Nat.mul_one, addr_add]
    · rw [hc _ hlt]; exact hx

/-- The same at a counter. -/
theorem idxLoadN {sz : Nat} {k : Kd} {h : Heap} {s : Sl} {vs : List Value} {i : Nat} {K : k.T → Prop} (r : Rd 1 h s vs) (hsz : sz = 1) (x : k.T) (hx : vs[i]? = some (k.inj x)) (hK : K x) :
    idxK s (i : Int) sz (fun a => loadK k h (some a) K) := idxLoad r hsz (by omega) x (by simpa using hx) hK

/-- A cell of a block is read. -/
theorem loadCell {k : Kd} {h : Heap} {b o : Nat} {c : Array Value} {e : TypeId} {fz : Nat × Nat} (hb : h[b]? = some (.cells c e fz)) (x : k.T) (hx : c[o]? = some (k.inj x)) {K : k.T → Prop} (hK : K x) : loadK k h (some ⟨b, o, none⟩) K :=
  ⟨b, o, c, e, fz, x, rfl, hb, hx, hK⟩
/-- A cell of a block is written. -/
theorem storeCell {h : Heap} {b o : Nat} {c : Array Value} {e : TypeId} {v : Value} (hb : Blk h b c e) (ho : o < c.size) (hv : v.oneCell' = true) {K : Heap → Prop}
    (hK : ∀ h', Blk h' b (c.setIfInBounds o v) e → Frm (· = b) h h' → h'.size = h.size → K h') : storeK h (some ⟨b, o, none⟩) v K :=
  ⟨b, o, c, e, rfl, hb, ho, hv, hK _ (setBlk_self hb) (Frm.setBlk h b _ e) (setBlk_size _ _ _ _)⟩

/-! ### Rows that a call owns -/

/-- The call owns the row behind s: it reads vs, may be written to, and grown up to its room. -/
def Own (e : TypeId) (sz : Nat) (h : Heap) (s : Sl) (vs : List Value) : Prop :=
  vs.length = s.n * sz ∧ s.n ≤ s.c ∧ ((s.a = none ∧ s.c = 0) ∨ ∃ b o c, s.a = some ⟨b, o, none⟩ ∧ Blk h b c e ∧ o + s.c * sz ≤ c.size ∧ ∀ i, i < vs.length → c[o + i]? = vs[i]?)

theorem Own.nil (e : TypeId) (sz : Nat) (h : Heap) : Own e sz h ⟨none, 0, 0⟩ [] := ⟨by simp, Nat.le_refl _, .inl ⟨rfl, rfl⟩⟩

theorem Own.rd {e : TypeId} {sz : Nat} {h : Heap} {s : Sl} {vs : List Value} (r : Own e sz h s vs) : Rd sz h s vs := by
  refine ⟨r.1, ?_⟩
  rcases r.2.2 with ⟨_, hc⟩ | ⟨b, o, c, ha, hb, _, hc⟩
  · have h1 := r.1
    have h2 := r.2.1
    have h3 : s.n = 0 := by omega
    rw [h3, Nat.zero_mul] at h1
    exact .inl (List.length_eq_zero_iff.1 h1)
  · exact .inr ⟨b, o, c, e, (0, 0), ha, hb, hc⟩

theorem Own.frm {S : Nat → Prop} {e : TypeId} {sz : Nat} {h h' : Heap} {s : Sl} {vs : List Value} (r : Own e sz h s vs) (f : Frm S h h') (hs : ∀ b, s.blk = some b → ¬ S b) : Own e sz h' s vs := by
  refine ⟨r.1, r.2.1, ?_⟩
  rcases r.2.2 with r | ⟨b, o, c, ha, hb, hc⟩
  · exact .inl r
  · exact .inr ⟨b, o, c, ha, f.get hb (hs b (by simp [Sl.blk, ha])), hc⟩

theorem Own.new (h : Heap) (cells : Array Value) (e : TypeId) (n : Nat) (hn : cells.size = n) : Own e 1 (h.push (.cells cells e (0, 0))) ⟨some ⟨h.size, 0, none⟩, n, n⟩ cells.toList :=
  ⟨by simp [hn], Nat.le_refl _, .inr ⟨h.size, 0, cells, rfl, push_last _ _, by simp [hn], fun i hi => by simp⟩⟩

theorem Own.blk_lt {e : TypeId} {sz : Nat} {h : Heap} {s : Sl} {vs : List Value} (r : Own e sz h s vs) {b : Nat} (hb : s.blk = some b) : b < h.size := by
  rcases r.2.2 with ⟨ha, _⟩ | ⟨b', o, c, ha, hb', _⟩
  · simp [Sl.blk, ha] at hb
  · simp [Sl.blk, ha] at hb; subst hb; exact lt_of_get hb'

theorem Rd.blk_lt {sz : Nat} {h : Heap} {s : Sl} {vs : List Value} (r : Rd sz h s vs) (hne : vs ≠ []) : ∃ b, s.blk = some b ∧ b < h.size := by
  rcases r.2 with hn | ⟨b, o, c, e, fz, ha, hb, _⟩
  · exact absurd hn hne
  · exact ⟨b, by simp [Sl.blk, ha], lt_of_get hb⟩

/-! ### append -/

section
variable {P : Program}

theorem nextslicecap_le (n c : Nat) (h : c < n) : Builtin.nextslicecap n c ≤ 2 * n + 192 := by
  unfold Builtin.nextslicecap
  split
  · omega
  · split
    · omega
    · simp only [Builtin.growBy]
      repeat' split
      all_goals omega

theorem firstCells_run {sz : Nat} {s : Sl} {vs : List Value} (w : World) (r : Rd sz w.heap s vs) : (Builtin.firstCells sz s.n (.slice s.a s.n s.c)).run P w = .ok ⟨vs⟩ w := by
  rcases r.2 with hn | ⟨b, o, c, e, fz, ha, hb, hc⟩
  · subst hn
    have h0 : s.n * sz = 0 := by have := r.1; simp at this; omega
    cases hs : s.a with
    | none => simp [Builtin.firstCells, hs]
    | some a => simp [Builtin.firstCells, hs, h0, loadCells, loadCellsFrom]
  · rw [ha]
    have hl := run_loadCells_list (P := P) w ⟨b, o, none⟩ vs (fun j v hv => by
      rw [addr_add, cell_of_row w b (o + j) c e fz hb, hc j (List.getElem?_eq_some_iff.1 hv).1]; exact hv)
    rw [r.1] at hl
    exact hl

theorem zeroCells_size (zero : Array Value) (n : Nat) : (Builtin.zeroCells zero n).size = n * zero.size := by simp [Builtin.zeroCells]

/-- 'append(s, x...)': a row that the call owns grows by what another one reads. -/
theorem append_rule {e e2 sT xT rT : TypeId} {sz : Nat} {i : TypeInfo} {z : Value} (hsT : P.underlying sT = some (.slice e)) (hdx : P.underlying xT = some (.slice e2))
    (hi : P.info? e = some i) (hsz : i.size = sz) (hz : i.zero = some z) (hzs : z.cells.size = sz) (hby : i.bytes ≤ 4096)
    {s x : Sl} {vs ws : List Value} {h : Heap} (hs : Own e sz h s vs) (hx : Rd sz h x ws) (hone : ∀ v ∈ ws, v.oneCell' = true) (hlen : s.n + x.n ≤ 1000000000) {K : Sl → Heap → Prop}
    (hK : ∀ (s' : Sl) (h' : Heap), Own e sz h' s' (vs ++ ws) → s'.n = s.n + x.n → Frm (fun b => s.blk = some b) h h' → (∀ b, s'.blk = some b → s.blk = some b ∨ h.size ≤ b) → (s'.a = none → s.n + x.n = 0) → K s' h') :
    opK P .slice (Builtin.append_ #[sT, xT] rT #[.slice s.a s.n s.c, .slice x.a x.n x.c]) K h := by
  intro w hw
  subst hw
  have hsize : (sizeOf e).run P w = .ok sz w := by simp [sizeOf, run_typeInfo hi, hsz]
  by_cases hfit : s.n + x.n ≤ s.c
  · -- there is room
    rcases hs.2.2 with ⟨ha, hc⟩ | ⟨b, o, c, ha, hb, hroom, hcs⟩
    · have h1 : s.n = 0 := by omega
      have h2 : x.n = 0 := by omega
      have hws : ws = [] := List.length_eq_zero_iff.1 (by rw [hx.1, h2]; simp)
      have hvs : vs = [] := List.length_eq_zero_iff.1 (by rw [hs.1, h1]; simp)
      refine ⟨⟨none, 0, 0⟩, w, ?_, Same.refl w, hK ⟨none, 0, 0⟩ w.heap (by rw [hws, hvs]; exact Own.nil _ _ _) (by simp [h1, h2]) (Frm.refl _ _) (by simp [Sl.blk]) (fun _ => by omega)⟩
      have hfc := firstCells_run (P := P) w hx
      unfold Builtin.append_
      simp only [List.getElem?_toArray, List.getElem?_cons_zero, List.getElem?_cons_succ, Sem.run_bind, run_underlying hsT, run_underlying hdx, Result.andThen_ok, Sem.run_pure, hsize, Bool.false_eq_true, if_false, Bool.not_false, if_true, Builtin.lenOf]
      rw [if_pos (by omega)]
      simp only [Sem.run_bind, hfc, Result.andThen_ok, ha, Sem.run_pure]
      simp [h1, h2, hc, Kd.inj]
    · have hwl : ws.length = x.n * sz := hx.1
      have hle : o + s.n * sz + ws.length ≤ c.size := by
        have : (s.n + x.n) * sz ≤ s.c * sz := Nat.mul_le_mul_right _ hfit
        rw [Nat.add_mul] at this
        omega
      have hst := run_storeCells_at (P := P) b (o + s.n * sz) e ws 0 c w hb (by simpa using hle) hone
      simp only [Nat.add_zero] at hst
      refine ⟨⟨s.a, s.n + x.n, s.c⟩, w.setRow b (overA c (o + s.n * sz) ws), ?_, setRow_same _ _ _, hK _ _ ?_ rfl ?_ ?_ ?_⟩
      · have hfc := firstCells_run (P := P) w hx
        unfold Builtin.append_
        simp only [List.getElem?_toArray, List.getElem?_cons_zero, List.getElem?_cons_succ, Sem.run_bind, run_underlying hsT, run_underlying hdx, Result.andThen_ok, Sem.run_pure, hsize, Bool.false_eq_true, if_false, Bool.not_false, if_true, Builtin.lenOf]
        rw [if_pos hfit]
        simp only [Sem.run_bind, hfc, Result.andThen_ok, ha, addr_add, hst, Sem.run_pure]
        rfl
      · rw [setRow_heap_eq hb]
        refine ⟨by simp [hs.1, hwl, Nat.add_mul], hfit, .inr ⟨b, o, overA c (o + s.n * sz) ws, ha, setBlk_self hb, ?_, ?_⟩⟩
        · simp [overA]; omega
        · intro j hj
          have hvl : vs.length = s.n * sz := hs.1
          simp only [List.length_append] at hj
          unfold overA
          simp only [List.getElem?_toArray]
          rw [List.append_assoc]
          have hlen1 : (c.toList.take (o + s.n * sz)).length = o + s.n * sz := by rw [List.length_take, Array.length_toList]; omega
          by_cases hjv : j < vs.length
          · rw [List.getElem?_append_left (l₁ := c.toList.take (o + s.n * sz)) (by omega), List.getElem?_take_of_lt (by omega)]
            have hR : (vs ++ ws)[j]? = vs[j]? := List.getElem?_append_left hjv
            rw [hR]
            have := hcs j hjv
            simpa using this
          · have hR : (vs ++ ws)[j]? = ws[j - vs.length]? := List.getElem?_append_right (by omega)
            rw [hR, List.getElem?_append_right (l₁ := c.toList.take (o + s.n * sz)) (by omega), hlen1]
            rw [List.getElem?_append_left (l₁ := ws) (by omega)]
            congr 1
            omega
      · rw [setRow_heap_eq hb]
        exact (Frm.setBlk _ b _ _).mono fun i _ hib => by simp [Sl.blk, ha, hib]
      · intro b' hb'
        exact .inl hb'
      · intro hna; rw [ha] at hna; cases hna
  · -- a new array
    have hrd := hs.rd
    have hnc : Builtin.nextslicecap (s.n + x.n) s.c * i.bytes ≤ 2 ^ 48 := by
      have h1 := nextslicecap_le (s.n + x.n) s.c (by omega)
      calc Builtin.nextslicecap (s.n + x.n) s.c * i.bytes ≤ (2 * (s.n + x.n) + 192) * 4096 := Nat.mul_le_mul h1 hby
        _ ≤ 2 ^ 48 := by omega
    have hzv : ∀ w : World, (zeroValue e).run P w = .ok z w := fun w => by simp [zeroValue, run_typeInfo hi, hz]
    let need := s.n + x.n
    let q := Question.appendCap need s.c e
    let cap := q.cut (w.tape w.drawn q)
    let w1 : World := { w with drawn := w.drawn + 1 }
    let cells : Array Value := (⟨vs⟩ ++ ⟨ws⟩ ++ Builtin.zeroCells z.cells (cap - need) : Array Value)
    have hcap : need ≤ cap := by simp only [cap, q, Question.cut]; omega
    refine ⟨⟨some ⟨w.heap.size, 0, none⟩, need, cap⟩, { w1 with heap := w.heap.push (.cells cells e (0, 0)) }, ?_, ⟨rfl, rfl, rfl⟩, hK _ _ ?_ rfl ?_ ?_ ?_⟩
    · have hfx := firstCells_run (P := P) w1 (s := x) hx
      have hfs := firstCells_run (P := P) w1 (s := s) hrd
      unfold Builtin.append_
      simp only [List.getElem?_toArray, List.getElem?_cons_zero, List.getElem?_cons_succ, Sem.run_bind, run_underlying hsT, run_underlying hdx, Result.andThen_ok, Sem.run_pure, hsize, Bool.false_eq_true, if_false, Bool.not_false, if_true, Builtin.lenOf]
      rw [if_neg hfit]
      have hni : ¬ (((s.n + x.n : Nat) : Int) > IntKind.i64.max ∧ (False ∨ i.bytes = 0)) := by
        have : IntKind.i64.max = 9223372036854775807 := rfl
        omega
      have hch : (choose (.appendCap (s.n + x.n) s.c e)).run P w = .ok cap w1 := by simp [choose, Sem.run, Question.forced, cap, q, w1, need]
      have hask : ∀ n : Nat, (askRoom n).run P w1 = .ok () w1 := fun n => by unfold askRoom; split <;> simp [mark, Sem.run]
      have hni2 : ¬ (((s.n + x.n : Nat) : Int) > IntKind.i64.max) := by
        have : IntKind.i64.max = 9223372036854775807 := rfl
        omega
      simp only [Sem.run_bind, run_typeInfo hi, Result.andThen_ok, hni2, false_and, and_false, if_false, not_true_eq_false, gt_iff_lt]
      simp only [Sem.run_ite, Sem.run_bind, Nat.not_lt.2 hnc, if_false, hch, Result.andThen_ok, run_typeInfo hi, hask, hfs, hfx, hzv, newRow, newObj, Sem.run, Sem.run_pure]
      rfl
    · refine ⟨by simp [hs.1, hx.1, Nat.add_mul, need], hcap, .inr ⟨w.heap.size, 0, cells, rfl, push_last _ _, ?_, ?_⟩⟩
      · have h1 : need * sz + (cap - need) * sz = cap * sz := by rw [← Nat.add_mul]; congr 1; omega
        simp only [cells, Array.size_append, zeroCells_size, hzs, List.size_toArray]
        have h2 := hs.1
        have h3 := hx.1
        have h4 : need * sz = s.n * sz + x.n * sz := by simp [need, Nat.add_mul]
        omega
      · intro j hj
        simp only [cells, Nat.zero_add]
        rw [Array.getElem?_append_left (by simpa using hj)]
        simp
    · exact Ext.frm (Ext.push _ _)
    · intro b hb
      simp [Sl.blk] at hb
      exact .inr (by omega)
    · intro hna; cases hna

/-- The same, the element type's row told at once. -/
theorem append_rule2 {e e2 sT xT rT : TypeId} {sz by_ : Nat} {z : Value} (hsT : P.underlying sT = some (.slice e)) (hdx : P.underlying xT = some (.slice e2))
    (hi : (P.info? e).map (fun i => (i.zero, i.size, i.bytes)) = some (some z, sz, by_)) (hzs : z.cells.size = sz) (hby : by_ ≤ 4096)
    {s x : Sl} {vs ws : List Value} {h : Heap} (hs : Own e sz h s vs) (hx : Rd sz h x ws) (hone : ∀ v ∈ ws, v.oneCell' = true) (hlen : s.n + x.n ≤ 1000000000) {K : Sl → Heap → Prop}
    (hK : ∀ (s' : Sl) (h' : Heap), Own e sz h' s' (vs ++ ws) → s'.n = s.n + x.n → Frm (fun b => s.blk = some b) h h' → (∀ b, s'.blk = some b → s.blk = some b ∨ h.size ≤ b) → (s'.a = none → s.n + x.n = 0) → K s' h') :
    opK P .slice (Builtin.append_ #[sT, xT] rT #[.slice s.a s.n s.c, .slice x.a x.n x.c]) K h := by
  cases hq : P.info? e with
  | none => rw [hq] at hi; cases hi
  | some i =>
    rw [hq] at hi
    simp only [Option.map_some, Option.some.injEq, Prod.mk.injEq] at hi
    obtain ⟨h1, h2, h3⟩ := hi
    exact append_rule hsT hdx hq h2 h1 hzs (by omega) hs hx hone hlen hK

end
end Go.Ev

/-!
  More of memory: make, slices of slices, rows lent.
-/
namespace Go.Ev
open Go

section
variable {P : Program}

/-- 'make([]T, l, c)', an element being one cell. -/
theorem make_rule {e t : TypeId} {by_ : Nat} {z : Value} (ht : P.underlying t = some (.slice e)) (hi : (P.info? e).map (fun i => (i.zero, i.size, i.bytes)) = some (some z, 1, by_)) (hzs : z.cells = #[z]) (hby : by_ ≤ 4096)
    {l c : Nat} {kl kc : IntKind} (hlc : l ≤ c) (hc : c ≤ 1000000000) {K : Sl → Heap → Prop} {h : Heap}
    (hK : K ⟨some ⟨h.size, 0, none⟩, l, c⟩ (h.push (.cells (Array.replicate c z) e (0, 0)))) :
    opK P .slice (Instr.makeSlice t (.int kl (l : Int)) (.int kc (c : Int))) K h := by
  intro w hw
  subst hw
  cases hq : P.info? e with
  | none => rw [hq] at hi; cases hi
  | some i =>
    rw [hq] at hi
    simp only [Option.map_some, Option.some.injEq, Prod.mk.injEq] at hi
    obtain ⟨h1, h2, h3⟩ := hi
    refine ⟨⟨some ⟨w.heap.size, 0, none⟩, l, c⟩, { w with heap := w.heap.push (.cells (Array.replicate c z) e (0, 0)) }, ?_, ⟨rfl, rfl, rfl⟩, hK⟩
    have wl : IntKind.i64.wrap (l : Int) = (l : Int) := wrapI64 (by omega) (by omega)
    have wc : IntKind.i64.wrap (c : Int) = (c : Int) := wrapI64 (by omega) (by omega)
    have hbc : i.bytes * c ≤ 4096 * 1000000000 := Nat.mul_le_mul (by omega) hc
    have hbc' : ((i.bytes : Int) * (c : Int)) ≤ 4096000000000 := by rw [← Int.natCast_mul]; exact Int.ofNat_le.2 (by omega)
    have hask : ∀ n : Nat, (askRoom n).run P w = .ok () w := fun n => by unfold askRoom; split <;> simp [mark, Sem.run]
    unfold Instr.makeSlice
    simp only [Sem.run_bind, run_underlying ht, Result.andThen_ok, asInt, asIntOf, Sem.run_pure, run_typeInfo hq, wl, wc]
    have hc1 : (decide ((c : Int) < 0) || decide ((i.bytes : Int) * (c : Int) > 2 ^ 48)) = false := by
      have h1 : decide ((c : Int) < 0) = false := by simp
      have h48 : (2 : Int) ^ 48 = 281474976710656 := by decide
      have h2 : decide ((i.bytes : Int) * (c : Int) > 2 ^ 48) = false := decide_eq_false (by rw [h48]; omega)
      rw [h1, h2]; rfl
    have hc2 : decide ((l : Int) < 0) = false := by simp
    have hc3 : decide ((l : Int) > (c : Int)) = false := by simp; omega
    simp only [hc1, hc2, hc3, Bool.false_or, Bool.or_false, Bool.false_eq_true, if_false, hask, Sem.run_bind, Sem.run_pure, Result.andThen_ok, Int.toNat_natCast]
    have hsize : (sizeOf e).run P w = .ok 1 w := by simp [sizeOf, run_typeInfo hq, h2]
    have hzv : (zeroValue e).run P w = .ok z w := by simp [zeroValue, run_typeInfo hq, h1]
    simp only [hsize, Result.andThen_ok, Nat.mul_one]
    by_cases h0 : c = 0
    · subst h0
      have hr0 : (Array.range 0).map (fun _ : Nat => (default : Value)) = #[] := by apply Array.ext <;> simp
      simp [newRow, newObj, Sem.run, Kd.inj, hr0]
    · simp only [h0, if_false, Sem.run_bind, hzv, Result.andThen_ok, Sem.run_pure, hzs]
      have hrow : (Array.range c).map (fun x => (#[z] : Array Value)[x % (#[z] : Array Value).size]!) = Array.replicate c z := by
        apply Array.ext
        · simp
        · intro j hj1 hj2
          simp [Nat.mod_one]
      simp only [hrow, newRow, newObj, Sem.run, Sem.run_bind, Result.andThen_ok, Sem.run_pure, Kd.inj]

end

/-! ### Slices of slices -/

/-- A slice that lies plainly in a block, or nowhere. -/
def Sl.plain (s : Sl) : Prop := s.a = none ∨ ∃ b o, s.a = some ⟨b, o, none⟩

theorem map_add_zero {s : Sl} (hp : s.plain) (k : Nat) : s.a.map (·.add (0 * k)) = s.a := by
  rcases hp with h | ⟨b, o, h⟩ <;> simp [h, addr_add]

theorem slice_to {s : Sl} {i : Int} {n sz : Nat} {K : Sl → Prop} (hp : s.plain) (hi : i = (n : Int)) (hn : n ≤ s.c) (hK : K ⟨s.a, n, s.c⟩) : sliceK s none (some i) none sz K := by
  refine ⟨0, n, s.c, rfl, ⟨hi, hn⟩, rfl, ?_⟩
  rw [map_add_zero hp, ite_self]
  exact hK

theorem Rd.plain {sz : Nat} {h : Heap} {s : Sl} {vs : List Value} (r : Rd sz h s vs) (hne : vs ≠ []) : s.plain := by
  rcases r.2 with h0 | ⟨b, o, _, _, _, ha, _⟩
  · exact absurd h0 hne
  · exact .inr ⟨b, o, ha⟩
theorem Own.plain {e : TypeId} {sz : Nat} {h : Heap} {s : Sl} {vs : List Value} (r : Own e sz h s vs) : s.plain := by
  rcases r.2.2 with ⟨ha, _⟩ | ⟨b, o, c, ha, _⟩
  · exact .inl ha
  · exact .inr ⟨b, o, ha⟩

/-- The first n of a slice. -/
theorem Rd.take {h : Heap} {s : Sl} {vs : List Value} (r : Rd 1 h s vs) {n c : Nat} (hn : n ≤ vs.length) : Rd 1 h ⟨s.a, n, c⟩ (vs.take n) := by
  refine ⟨by simp [Nat.min_eq_left hn], ?_⟩
  rcases r.2 with h0 | ⟨b, o, cs, e, fz, ha, hb, hc⟩
  · subst h0; simp at hn; exact .inl (by simp)
  · refine .inr ⟨b, o, cs, e, fz, ha, hb, fun i hi => ?_⟩
    rw [List.length_take, Nat.min_eq_left hn] at hi
    rw [hc i (by omega), List.getElem?_take_of_lt hi]

/-- What is left behind the first n. -/
theorem Rd.drop {h : Heap} {s : Sl} {vs : List Value} (r : Rd 1 h s vs) {n c sz : Nat} (hsz : sz = 1) (hn : n ≤ vs.length) (hcap : s.n ≤ s.c) :
    Rd 1 h ⟨if s.c = n then s.a else s.a.map (·.add (n * sz)), s.n - n, s.c - n⟩ (vs.drop n) := by
  subst hsz
  have hl := r.len
  refine ⟨by simp [hl], ?_⟩
  rcases r.2 with h0 | ⟨b, o, cs, e, fz, ha, hb, hc⟩
  · subst h0; exact .inl (by simp)
  · by_cases hcn : s.c = n
    · left; apply List.drop_eq_nil_of_le; omega
    · right
      refine ⟨b, o + n, cs, e, fz, by simp [hcn, ha, addr_add], hb, fun i hi => ?_⟩
      rw [List.length_drop] at hi
      rw [List.getElem?_drop, Nat.add_assoc, hc (n + i) (by omega)]


/-- An element of an owned row is written. -/
theorem idxStoreN {e : TypeId} {sz : Nat} {h : Heap} {s : Sl} {vs : List Value} {i : Nat} {v : Value} {K : Heap → Prop} (r : Own e 1 h s vs) (hsz : sz = 1) (hi : i < vs.length) (hv : v.oneCell' = true)
    (hK : ∀ h', Own e 1 h' s (vs.set i v) → Frm (fun b => s.blk = some b) h h' → h'.size = h.size → K h') : idxK s (i : Int) sz (fun a => storeK h (some a) v K) := by
  subst hsz
  have hl := r.rd.len
  rcases r.2.2 with ⟨ha, hc⟩ | ⟨b, o, c, ha, hb, hroom, hc⟩
  · have := r.2.1; omega
  · refine ⟨_, ha, ⟨by omega, by omega⟩, ?_⟩
    rw [Nat.mul_one, addr_add, Int.toNat_natCast]
    have hnc := r.2.1
    refine storeCell hb (by omega) hv ?_
    intro h' hb' hf hsz
    refine hK h' ⟨by simpa using r.1, r.2.1, .inr ⟨b, o, _, ha, hb', by simpa using hroom, ?_⟩⟩ (hf.mono fun j _ hj => by simp [Sl.blk, ha, hj]) hsz
    intro j hj
    rw [List.length_set] at hj
    rw [Array.getElem?_setIfInBounds, List.getElem?_set]
    by_cases hij : i = j
    · subst hij
      simp [hi]
      omega
    · rw [if_neg (by omega), if_neg hij, hc j hj]

/-- A slice of named elements. -/
theorem newSl_intro {h : Heap} {n : Nat} {cells : Array Value} {e : TypeId} {K : Sl → Heap → Prop} (hn : cells.size = n)
    (H : ∀ (s : Sl) (h' : Heap), Own e 1 h' s cells.toList → s.n = n → s.c = n → Ext h h' → s.blk = some h.size → K s h') : newSlK h n cells e K :=
  H _ _ (Own.new h cells e n hn) rfl rfl (Ext.push _ _) rfl

/-! ### Rows lent: a row, and behind its end, in its room, marks -/

end Go.Ev
