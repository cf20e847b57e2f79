/-
  Memory in colours: every block has a colour; who writes says which colours are written to; what has another colour stays as it is. Nothing of a given program stands here.
-/
import Derived.Test.YtijipdaofojbiaaMem
import Derived.Test.YtijipdaofojbiaaRow
set_option linter.unusedSimpArgs false
set_option linter.unusedVariables false
namespace Go.Ev
open Go

/-- A heap, and its blocks' colours. -/
structure GH where
  h : Heap
  γ : Nat → Nat

/-- From one to the other only blocks of colours in K, and new ones, were written to. -/
structure Mv (K : List Nat) (g g' : GH) : Prop where
  size : g.h.size ≤ g'.h.size
  col : ∀ b, b < g.h.size → g'.γ b = g.γ b
  same : ∀ b, b < g.h.size → g.γ b ∉ K → g'.h[b]? = g.h[b]?

theorem Mv.refl (K : List Nat) (g : GH) : Mv K g g := ⟨Nat.le_refl _, fun _ _ => rfl, fun _ _ _ => rfl⟩
theorem Mv.trans {K L : List Nat} {a b c : GH} (m : Mv K a b) (n : Mv L b c) : Mv (K ++ L) a c :=
  ⟨Nat.le_trans m.size n.size, fun i hi => (n.col i (Nat.lt_of_lt_of_le hi m.size)).trans (m.col i hi), fun i hi hk => by
    rw [List.mem_append, not_or] at hk
    exact (n.same i (Nat.lt_of_lt_of_le hi m.size) (by rw [m.col i hi]; exact hk.2)).trans (m.same i hi hk.1)⟩
theorem Mv.mono {K L : List Nat} {a b : GH} (m : Mv K a b) (h : ∀ k ∈ K, k ∈ L) : Mv L a b := ⟨m.size, m.col, fun i hi hk => m.same i hi fun x => hk (h _ x)⟩
/-- One step more, the colours as they are. -/
theorem Mv.step {K L : List Nat} {a b c : GH} (m : Mv L a b) (n : Mv K b c) (h : ∀ k ∈ K, k ∈ L) : Mv L a c := (m.trans n).mono fun k hk => by
  rcases List.mem_append.1 hk with hk | hk
  · exact hk
  · exact h k hk
/-- Two steps, one set of colours. -/
theorem Mv.then {K L M : List Nat} {a b c : GH} (m : Mv K a b) (n : Mv L b c) (h : ∀ k ∈ K ++ L, k ∈ M) : Mv M a c := (m.trans n).mono h
theorem Mv.get {K : List Nat} {g g' : GH} (m : Mv K g g') {b : Nat} {o : Obj} (hb : g.h[b]? = some o) (hk : g.γ b ∉ K) : g'.h[b]? = some o := by
  rw [m.same b (lt_of_get hb) hk]; exact hb
theorem Mv.col' {K : List Nat} {g g' : GH} (m : Mv K g g') {b : Nat} {o : Obj} (hb : g.h[b]? = some o) : g'.γ b = g.γ b := m.col b (lt_of_get hb)
/-- If nothing of the first colour was written to, all that was there at the begin is as it was. -/
theorem Mv.ext {K : List Nat} {h : Heap} {g : GH} (m : Mv K ⟨h, fun _ => 0⟩ g) (h0 : 0 ∉ K) : Ext h g.h := ⟨m.size, fun b hb _ => m.same b hb h0⟩

/-- What is new is of colour c. -/
def GH.to (g : GH) (h' : Heap) (c : Nat) : GH := ⟨h', fun b => if b < g.h.size then g.γ b else c⟩
theorem GH.to_new (g : GH) (h' : Heap) (c b : Nat) (hb : g.h.size ≤ b) : (g.to h' c).γ b = c := by simp [GH.to]; omega
theorem GH.to_old (g : GH) (h' : Heap) (c b : Nat) (hb : b < g.h.size) : (g.to h' c).γ b = g.γ b := by simp [GH.to]; omega
theorem GH.to_ext {g : GH} {h' : Heap} (c : Nat) (x : Ext g.h h') : Mv [] g (g.to h' c) := ⟨x.1, fun b hb => g.to_old h' c b hb, fun b hb _ => x.2 b hb fun y => y⟩
theorem GH.to_frm {g : GH} {h' : Heap} {S : Nat → Prop} (c : Nat) (x : Frm S g.h h') {k : Nat} (hs : ∀ b, b < g.h.size → S b → g.γ b = k) : Mv [k] g (g.to h' c) :=
  ⟨x.1, fun b hb => g.to_old h' c b hb, fun b hb hk => x.2 b hb fun y => hk (by simp [hs b hb y])⟩

/-! ### Blocks and rows of a colour -/

/-- Block b is these cells, and of colour c. -/
structure BlkC (g : GH) (c b : Nat) (cells : Array Value) (e : TypeId) : Prop where
  blk : Blk g.h b cells e
  col : g.γ b = c
theorem BlkC.mv {K : List Nat} {g g' : GH} {c b : Nat} {cells : Array Value} {e : TypeId} (r : BlkC g c b cells e) (m : Mv K g g') (hk : c ∉ K) : BlkC g' c b cells e :=
  ⟨m.get r.blk (by rw [r.col]; exact hk), by rw [m.col' r.blk]; exact r.col⟩

/-- From s on memory reads vs, and lies in colour c. -/
structure RdC (sz : Nat) (g : GH) (c : Nat) (s : Sl) (vs : List Value) : Prop where
  rd : Rd sz g.h s vs
  col : vs = [] ∨ ∃ b, s.blk = some b ∧ b < g.h.size ∧ g.γ b = c
theorem RdC.mv {K : List Nat} {sz : Nat} {g g' : GH} {c : Nat} {s : Sl} {vs : List Value} (r : RdC sz g c s vs) (m : Mv K g g') (hk : c ∉ K) : RdC sz g' c s vs := by
  refine ⟨⟨r.rd.1, ?_⟩, ?_⟩
  · rcases r.rd.2 with h | ⟨b, o, cs, e, fz, ha, hb, hc⟩
    · exact .inl h
    · rcases r.col with h | ⟨b', hb', hlt, hγ⟩
      · exact .inl h
      · have : b = b' := by simp [Sl.blk, ha] at hb'; exact hb'
        subst this
        exact .inr ⟨b, o, cs, e, fz, ha, m.get hb (by rw [hγ]; exact hk), hc⟩
  · rcases r.col with h | ⟨b', hb', hlt, hγ⟩
    · exact .inl h
    · exact .inr ⟨b', hb', Nat.lt_of_lt_of_le hlt m.size, by rw [m.col b' hlt]; exact hγ⟩
theorem RdC.nil (sz : Nat) (g : GH) (c : Nat) (a : Option Addr) (k : Nat) : RdC sz g c ⟨a, 0, k⟩ [] := ⟨Rd.nil _ _ _ _, .inl rfl⟩
theorem RdC.len {g : GH} {c : Nat} {s : Sl} {vs : List Value} (r : RdC 1 g c s vs) : s.n = vs.length := r.rd.len

/-- A row of colour c that may be written to and grown. -/
structure OwnC (e : TypeId) (sz : Nat) (g : GH) (c : Nat) (s : Sl) (vs : List Value) : Prop where
  own : Own e sz g.h s vs
  col : ∀ b, s.blk = some b → g.γ b = c
theorem OwnC.mv {K : List Nat} {e : TypeId} {sz : Nat} {g g' : GH} {c : Nat} {s : Sl} {vs : List Value} (r : OwnC e sz g c s vs) (m : Mv K g g') (hk : c ∉ K) : OwnC e sz g' c s vs := by
  refine ⟨⟨r.own.1, r.own.2.1, ?_⟩, fun b hb => ?_⟩
  · rcases r.own.2.2 with h | ⟨b, o, cs, ha, hb, hc⟩
    · exact .inl h
    · exact .inr ⟨b, o, cs, ha, m.get hb (by rw [r.col b (by simp [Sl.blk, ha])]; exact hk), hc⟩
  · rw [m.col b (r.own.blk_lt hb)]; exact r.col b hb
theorem OwnC.nil (e : TypeId) (sz : Nat) (g : GH) (c : Nat) : OwnC e sz g c ⟨none, 0, 0⟩ [] := ⟨Own.nil _ _ _, by simp [Sl.blk]⟩
theorem OwnC.rd {e : TypeId} {sz : Nat} {g : GH} {c : Nat} {s : Sl} {vs : List Value} (r : OwnC e sz g c s vs) : RdC sz g c s vs := by
  refine ⟨r.own.rd, ?_⟩
  rcases r.own.rd.2 with h | ⟨b, o, cs, e', fz, ha, hb, _⟩
  · exact .inl h
  · exact .inr ⟨b, by simp [Sl.blk, ha], lt_of_get hb, r.col b (by simp [Sl.blk, ha])⟩
theorem OwnC.len {e : TypeId} {g : GH} {c : Nat} {s : Sl} {vs : List Value} (r : OwnC e 1 g c s vs) : s.n = vs.length := r.own.rd.len
theorem OwnC.cap {e : TypeId} {sz : Nat} {g : GH} {c : Nat} {s : Sl} {vs : List Value} (r : OwnC e sz g c s vs) : s.n ≤ s.c := r.own.2.1
theorem OwnC.plain {e : TypeId} {sz : Nat} {g : GH} {c : Nat} {s : Sl} {vs : List Value} (r : OwnC e sz g c s vs) : s.plain := r.own.plain

/-- The first n of a row that one owns. -/
theorem Own.take {e : TypeId} {h : Heap} {s : Sl} {vs : List Value} (r : Own e 1 h s vs) {n k : Nat} (hn : n ≤ vs.length) (hk : n ≤ k) (hkc : k ≤ s.c) : Own e 1 h ⟨s.a, n, k⟩ (vs.take n) := by
  have hl := r.1
  refine ⟨by simp; omega, hk, ?_⟩
  rcases r.2.2 with ⟨ha, hc⟩ | ⟨b, o, c, ha, hb, hr, hc⟩
  · exact .inl ⟨ha, by show k = 0; omega⟩
  · refine .inr ⟨b, o, c, ha, hb, by show o + k * 1 ≤ c.size; omega, fun i hi => ?_⟩
    rw [List.length_take] at hi
    rw [hc i (by omega), List.getElem?_take_of_lt (by omega)]
theorem OwnC.take {e : TypeId} {g : GH} {c : Nat} {s : Sl} {vs : List Value} (r : OwnC e 1 g c s vs) {n k : Nat} (hn : n ≤ vs.length) (hk : n ≤ k) (hkc : k ≤ s.c) : OwnC e 1 g c ⟨s.a, n, k⟩ (vs.take n) := ⟨r.own.take hn hk hkc, r.col⟩
theorem RdC.take {g : GH} {c : Nat} {s : Sl} {vs : List Value} (r : RdC 1 g c s vs) {n k : Nat} (hn : n ≤ vs.length) : RdC 1 g c ⟨s.a, n, k⟩ (vs.take n) := by
  refine ⟨r.rd.take hn, ?_⟩
  rcases r.col with h | h
  · exact .inl (by simp [h])
  · exact .inr h
theorem RdC.drop {g : GH} {c : Nat} {s : Sl} {vs : List Value} (r : RdC 1 g c s vs) {n sz : Nat} (hsz : sz = 1) (hn : n ≤ vs.length) (hcap : s.n ≤ s.c) :
    RdC 1 g c ⟨if s.c = n then s.a else s.a.map (·.add (n * sz)), s.n - n, s.c - n⟩ (vs.drop n) := by
  refine ⟨r.rd.drop (c := 0) hsz hn hcap, ?_⟩
  rcases r.col with h | ⟨b, hb, h⟩
  · exact .inl (by simp [h])
  · refine .inr ⟨b, ?_, h⟩
    simp only [Sl.blk] at hb ⊢
    split
    · exact hb
    · cases ha : s.a with
      | none => rw [ha] at hb; cases hb
      | some a => rw [ha] at hb; simp [Addr.add] at hb ⊢; split <;> simpa using hb

/-- What a statement's argument reads, at any later time. -/
theorem Rd.arg {K : List Nat} {sz : Nat} {h : Heap} {g : GH} {s : Sl} {vs : List Value} (r : Rd sz h s vs) (m : Mv K ⟨h, fun _ => 0⟩ g) (h0 : 0 ∉ K) : RdC sz g 0 s vs := by
  refine ⟨r.ext (m.ext h0), ?_⟩
  rcases r.2 with h1 | ⟨b, o, cs, e, fz, ha, hb, _⟩
  · exact .inl h1
  · exact .inr ⟨b, by simp [Sl.blk, ha], Nat.lt_of_lt_of_le (lt_of_get hb) m.size, m.col b (lt_of_get hb)⟩

/-! ### Rules -/

section
variable {P : Program}

theorem newSl_C (g : GH) (c : Nat) {n : Nat} {cells : Array Value} {e : TypeId} {K : Sl → Heap → Prop} (hn : cells.size = n)
    (H : ∀ (s : Sl) (g' : GH), Mv [] g g' → OwnC e 1 g' c s cells.toList → s.n = n → s.c = n → K s g'.h) : newSlK g.h n cells e K := by
  refine newSl_intro hn fun s h' own hsn hsc x hb => ?_
  exact H s (g.to h' c) (GH.to_ext c x) ⟨own, fun b h1 => by rw [hb] at h1; cases h1; exact g.to_new _ _ _ (Nat.le_refl _)⟩ hsn hsc

theorem new_C (g : GH) (c : Nat) {cells : Array Value} {e : TypeId} {K : Option Addr → Heap → Prop}
    (H : ∀ (p : Nat) (g' : GH), Mv [] g g' → BlkC g' c p cells e → K (some ⟨p, 0, none⟩) g'.h) : newK g.h cells e K :=
  H g.h.size (g.to (g.h.push (.cells cells e (0, 0))) c) (GH.to_ext c (Ext.push _ _)) ⟨push_last _ _, g.to_new _ _ _ (Nat.le_refl _)⟩

theorem loadK_C {g : GH} {c b o : Nat} {cells : Array Value} {e : TypeId} (hb : BlkC g c b cells e) {k : Kd} {K : k.T → Prop} :
    loadK k g.h (some ⟨b, o, none⟩) K = ∃ x : k.T, cells[o]? = some (k.inj x) ∧ K x := by
  apply propext
  constructor
  · rintro ⟨b', o', c', e', fz, x, hp, hb', hx, hk⟩
    cases hp
    have := hb.blk
    unfold Blk at this
    rw [this] at hb'
    cases hb'
    exact ⟨x, hx, hk⟩
  · rintro ⟨x, hx, hk⟩
    exact ⟨b, o, cells, e, _, x, rfl, hb.blk, hx, hk⟩
theorem stillK_C {g : GH} {c b o : Nat} {cells : Array Value} {e : TypeId} (hb : BlkC g c b cells e) {k : Kd} {v : k.T} (h : cells[o]? = some (k.inj v)) : stillK k g.h (some ⟨b, o, none⟩) v := by
  unfold stillK
  rw [loadK_C hb]
  exact ⟨v, h, rfl⟩
theorem loadAggK_C {g : GH} {c b o n : Nat} {cells : Array Value} {e : TypeId} (hb : BlkC g c b cells e) {K : Array Value → Prop} :
    loadAggK n g.h (some ⟨b, o, none⟩) K = (o + n ≤ cells.size ∧ K (cells.extract o (o + n))) := by
  apply propext
  constructor
  · rintro ⟨b', o', c', e', fz, hp, hb', hx, hk⟩
    cases hp
    have := hb.blk
    unfold Blk at this
    rw [this] at hb'
    cases hb'
    exact ⟨hx, hk⟩
  · rintro ⟨hx, hk⟩
    exact ⟨b, o, cells, e, _, rfl, hb.blk, hx, hk⟩

theorem store_C {g : GH} {c b o : Nat} {cells : Array Value} {e : TypeId} (hb : BlkC g c b cells e) {v : Value} {K : Heap → Prop} (ho : o < cells.size) (hv : v.oneCell' = true)
    (H : ∀ g' : GH, Mv [c] g g' → BlkC g' c b (cells.setIfInBounds o v) e → K g'.h) : storeK g.h (some ⟨b, o, none⟩) v K := by
  refine storeCell hb.blk ho hv fun h' hb' hf hs => ?_
  refine H (g.to h' 0) (GH.to_frm 0 hf fun x _ hx => by rw [hx]; exact hb.col) ⟨hb', ?_⟩
  rw [g.to_old _ _ _ (lt_of_get hb.blk)]; exact hb.col
theorem storeAgg_C {g : GH} {c b o n : Nat} {cells : Array Value} {e : TypeId} (hb : BlkC g c b cells e) {cs : Array Value} {K : Heap → Prop} (hn : cs.size = n) (ho : o + n ≤ cells.size) (hv : ∀ v ∈ cs.toList, v.oneCell' = true)
    (H : ∀ g' : GH, Mv [c] g g' → BlkC g' c b (overA cells o cs.toList) e → K g'.h) : storeAggK n g.h (some ⟨b, o, none⟩) cs K := by
  refine ⟨b, o, cells, e, rfl, hb.blk, hn, ho, hv, ?_⟩
  refine H (g.to _ 0) (GH.to_frm 0 (Frm.setBlk _ b _ e) fun x _ hx => by rw [hx]; exact hb.col) ⟨setBlk_self hb.blk, ?_⟩
  rw [g.to_old _ _ _ (lt_of_get hb.blk)]; exact hb.col

theorem append_C {e e2 sT xT rT : TypeId} {sz by_ : Nat} {z : Value} (hsT : P.underlying sT = some (.slice e)) (hdx : P.underlying xT = some (.slice e2))
    (hi : (P.info? e).map (fun i => (i.zero, i.size, i.bytes)) = some (some z, sz, by_)) (hzs : z.cells.size = sz) (hby : by_ ≤ 4096)
    {g : GH} {c : Nat} {s x : Sl} {vs ws : List Value} (hs : OwnC e sz g c s vs) (hx : Rd sz g.h x ws) (hone : ∀ v ∈ ws, v.oneCell' = true) (hlen : s.n + x.n ≤ 1000000000) {K : Sl → Heap → Prop}
    (hK : ∀ (s' : Sl) (g' : GH), Mv [c] g g' → OwnC e sz g' c s' (vs ++ ws) → s'.n = s.n + x.n → (s'.a = none → s.n + x.n = 0) → K s' g'.h) :
    opK P .slice (Builtin.append_ #[sT, xT] rT #[.slice s.a s.n s.c, .slice x.a x.n x.c]) K g.h := by
  refine append_rule2 hsT hdx hi hzs hby hs.own hx hone hlen fun s' h' own hn hf hb hna => ?_
  refine hK s' (g.to h' c) (GH.to_frm c hf fun b _ hb' => hs.col b hb') ⟨own, fun b hb' => ?_⟩ hn hna
  by_cases hlt : b < g.h.size
  · rw [g.to_old _ _ _ hlt]
    rcases hb b hb' with h | h
    · exact hs.col b h
    · omega
  · exact g.to_new _ _ _ (by omega)

theorem make_C {e t : TypeId} {by_ : Nat} {z : Value} (ht : P.underlying t = some (.slice e)) (hi : (P.info? e).map (fun i => (i.zero, i.size, i.bytes)) = some (some z, 1, by_)) (hzs : z.cells = #[z]) (hby : by_ ≤ 4096)
    (g : GH) (c : Nat) {l k : Nat} {kl kc : IntKind} (hlc : l ≤ k) (hc : k ≤ 1000000000) {K : Sl → Heap → Prop}
    (hK : ∀ (s : Sl) (g' : GH), Mv [] g g' → OwnC e 1 g' c s (List.replicate l z) → s.n = l → s.c = k → s.a ≠ none → K s g'.h) :
    opK P .slice (Instr.makeSlice t (.int kl (l : Int)) (.int kc (k : Int))) K g.h := by
  refine make_rule ht hi hzs hby hlc hc ?_
  refine hK ⟨some ⟨g.h.size, 0, none⟩, l, k⟩ (g.to _ c) (GH.to_ext c (Ext.push _ _)) ⟨⟨by simp, hlc, .inr ⟨g.h.size, 0, _, rfl, push_last _ _, by simp, fun i hi => ?_⟩⟩, fun b hb => ?_⟩ rfl rfl (by simp)
  · simp only [List.length_replicate] at hi
    rw [Nat.zero_add, Array.getElem?_replicate, List.getElem?_replicate, if_pos (by omega), if_pos hi]
  · simp [Sl.blk] at hb
    subst hb
    exact g.to_new _ _ _ (Nat.le_refl _)

end

theorem idxLoad_C {sz : Nat} {k : Kd} {g : GH} {c : Nat} {s : Sl} {vs : List Value} {i : Int} {K : k.T → Prop} (r : RdC 1 g c s vs) (hsz : sz = 1) (h0 : 0 ≤ i) (x : k.T) (hx : vs[i.toNat]? = some (k.inj x)) (hK : K x) :
    idxK s i sz (fun a => loadK k g.h (some a) K) := idxLoad r.rd hsz h0 x hx hK

theorem idxStore_C {e : TypeId} {sz : Nat} {g : GH} {c : Nat} {s : Sl} {vs : List Value} {i : Nat} {v : Value} {K : Heap → Prop} (r : OwnC e 1 g c s vs) (hsz : sz = 1) (hi : i < vs.length) (hv : v.oneCell' = true)
    (hK : ∀ g' : GH, Mv [c] g g' → OwnC e 1 g' c s (vs.set i v) → K g'.h) : idxK s (i : Int) sz (fun a => storeK g.h (some a) v K) := by
  refine idxStoreN r.own hsz hi hv fun h' own hf hs => ?_
  refine hK (g.to h' 0) (GH.to_frm 0 hf fun b _ hb => r.col b hb) ⟨own, fun b hb => ?_⟩
  rw [g.to_old _ _ _ (r.own.blk_lt hb)]
  exact r.col b hb

/-! ### What the heap does not matter for -/

theorem derefK_some {a : Addr} {K : Addr → Prop} : derefK (some a) K = K a := by
  apply propext; simp [derefK]
theorem fldK_some {b o off : Nat} {K : Addr → Prop} : fldK (some ⟨b, o, none⟩) off K = K ⟨b, o + off, none⟩ := by
  apply propext; simp [fldK, addr_add]
theorem inj_int {k : IntKind} {n x : Int} : (some (Value.int k n) = some (Kd.inj (.int k) x)) = (x = n) := by
  apply propext; simp [Kd.inj]; exact eq_comm
theorem inj_bool {n x : Bool} : (some (Value.bool n) = some (Kd.inj .bool x)) = (x = n) := by
  apply propext; simp [Kd.inj]; exact eq_comm
theorem inj_str {n x : ByteArray} : (some (Value.string n) = some (Kd.inj .str x)) = (x = n) := by
  apply propext; simp [Kd.inj]; exact eq_comm
theorem inj_ptr {n x : Option Addr} : (some (Value.pointer n) = some (Kd.inj .ptr x)) = (x = n) := by
  apply propext; simp [Kd.inj]; exact eq_comm
theorem inj_map {n x : Option Nat} : (some (Value.map n) = some (Kd.inj .map x)) = (x = n) := by
  apply propext; simp [Kd.inj]; exact eq_comm
theorem inj_slice {a : Option Addr} {n c : Nat} {x : Sl} : (some (Value.slice a n c) = some (Kd.inj .slice x)) = (x = ⟨a, n, c⟩) := by
  apply propext; cases x; simp [Kd.inj]; constructor <;> rintro ⟨rfl, rfl, rfl⟩ <;> exact ⟨rfl, rfl, rfl⟩
/-! ### Rows of rows of bytes -/

abbrev byV (x : Int) : Value := .int .u8 x
abbrev slV (s : Sl) : Value := .slice s.a s.n s.c

/-- From s on memory reads slices, which read these rows. -/
def RowsC (g : GH) (c : Nat) (s : Sl) (xss : List (List Int)) : Prop :=
  ∃ sls : List Sl, RdC 1 g c s (sls.map slV) ∧ sls.length = xss.length ∧ ∀ (i : Nat) (sl : Sl) (xs : List Int), sls[i]? = some sl → xss[i]? = some xs → RdC 1 g c sl (xs.map byV) ∧ sl.n ≤ sl.c
theorem RowsC.mv {K : List Nat} {g g' : GH} {c : Nat} {s : Sl} {xss : List (List Int)} (r : RowsC g c s xss) (m : Mv K g g') (hk : c ∉ K) : RowsC g' c s xss := by
  obtain ⟨sls, h1, h2, h3⟩ := r
  exact ⟨sls, h1.mv m hk, h2, fun i sl xs a b => ⟨(h3 i sl xs a b).1.mv m hk, (h3 i sl xs a b).2⟩⟩
theorem RowsC.len {g : GH} {c : Nat} {s : Sl} {xss : List (List Int)} (r : RowsC g c s xss) : s.n = xss.length := by
  obtain ⟨sls, h1, h2, h3⟩ := r
  have := h1.len
  simp at this; omega
theorem RowsC.nil (g : GH) (c : Nat) (a : Option Addr) (k : Nat) : RowsC g c ⟨a, 0, k⟩ [] := ⟨[], RdC.nil _ _ _ _ _, rfl, by simp⟩
theorem RowsC.idx {g : GH} {c : Nat} {s : Sl} {xss : List (List Int)} {sz i : Nat} {K : Sl → Prop} (r : RowsC g c s xss) (hsz : sz = 1) (hi : i < xss.length)
    (H : ∀ sl : Sl, RdC 1 g c sl ((xss[i]'hi).map byV) → sl.n ≤ sl.c → K sl) : idxK s (i : Int) sz (fun a => loadK .slice g.h (some a) K) := by
  obtain ⟨sls, h1, h2, h3⟩ := r
  have hi2 : i < sls.length := by omega
  obtain ⟨h4, h5⟩ := h3 i _ _ (List.getElem?_eq_getElem hi2) (List.getElem?_eq_getElem hi)
  exact idxLoadN h1.rd hsz (k := .slice) (sls[i]'hi2) (by rw [List.getElem?_map, List.getElem?_eq_getElem hi2]; rfl) (H _ h4 h5)
/-- What was there at a call's begin is there later, of the colour 0. -/
theorem RdC.arg {K : List Nat} {sz : Nat} {g q : GH} {c : Nat} {s : Sl} {vs : List Value} (r : RdC sz g c s vs) (m : Mv K ⟨g.h, fun _ => 0⟩ q) (h0 : 0 ∉ K) : RdC sz q 0 s vs := r.rd.arg m h0
theorem RowsC.arg {K : List Nat} {g q : GH} {c : Nat} {s : Sl} {xss : List (List Int)} (r : RowsC g c s xss) (m : Mv K ⟨g.h, fun _ => 0⟩ q) (h0 : 0 ∉ K) : RowsC q 0 s xss := by
  obtain ⟨sls, h1, h2, h3⟩ := r
  exact ⟨sls, h1.arg m h0, h2, fun i sl xs a b => ⟨(h3 i sl xs a b).1.arg m h0, (h3 i sl xs a b).2⟩⟩
/-- A block that has a colour of its own is new. -/
theorem Mv.new {K : List Nat} {h : Heap} {q : GH} (m : Mv K ⟨h, fun _ => 0⟩ q) {b : Nat} (hc : q.γ b ≠ 0) : h.size ≤ b := by
  rcases Nat.lt_or_ge b h.size with hlt | hge
  · exact absurd (m.col b hlt) hc
  · exact hge
theorem Mv.fresh {K : List Nat} {g q : GH} (m : Mv K ⟨g.h, fun _ => 0⟩ q) {b c : Nat} (hb : b < q.h.size) (hc : q.γ b ≠ 0) : (g.to q.h c).γ b = c := g.to_new _ _ _ (m.new hc)
/-- What a call made, in the caller's colours. -/
theorem OwnC.out {K : List Nat} {e : TypeId} {sz : Nat} {g q : GH} {k : Nat} {s : Sl} {vs : List Value} (r : OwnC e sz q k s vs) (m : Mv K ⟨g.h, fun _ => 0⟩ q) (hk : k ≠ 0) (c : Nat) : OwnC e sz (g.to q.h c) c s vs :=
  ⟨r.own, fun b hb => m.fresh (r.own.blk_lt hb) (by rw [r.col b hb]; exact hk)⟩

/-! ### What a call made, in the caller's colours -/

/-- A call counts its own blocks in colours of its own: all that was there has the colour 0. φ tells the caller's colours. -/
def GH.via (g q : GH) (φ : Nat → Nat) : GH := ⟨q.h, fun b => if b < g.h.size then g.γ b else φ (q.γ b)⟩
abbrev GH.base (g : GH) : GH := ⟨g.h, fun _ => 0⟩
theorem Mv.via {K : List Nat} {g q : GH} (m : Mv K g.base q) (h0 : 0 ∉ K) (φ : Nat → Nat) : Mv [] g (g.via q φ) :=
  ⟨m.size, fun b hb => by simp [GH.via, hb], fun b hb _ => m.same b hb (by simpa using h0)⟩
theorem Mv.at_ {K : List Nat} {g q : GH} (m : Mv K g.base q) (φ : Nat → Nat) {b k : Nat} (hb : q.γ b = k) (hk : k ≠ 0) : (g.via q φ).γ b = φ k := by
  have := m.new (b := b) (by rw [hb]; exact hk)
  simp only [GH.via]
  rw [if_neg (by exact Nat.not_lt.2 this), hb]
theorem BlkC.via {K : List Nat} {g q : GH} {k b : Nat} {cells : Array Value} {e : TypeId} (r : BlkC q k b cells e) (m : Mv K g.base q) (hk : k ≠ 0) (φ : Nat → Nat) : BlkC (g.via q φ) (φ k) b cells e := ⟨r.blk, m.at_ φ r.col hk⟩
theorem OwnC.via {K : List Nat} {e : TypeId} {sz : Nat} {g q : GH} {k : Nat} {s : Sl} {vs : List Value} (r : OwnC e sz q k s vs) (m : Mv K g.base q) (hk : k ≠ 0) (φ : Nat → Nat) : OwnC e sz (g.via q φ) (φ k) s vs :=
  ⟨r.own, fun b hb => m.at_ φ (r.col b hb) hk⟩
theorem RdC.via {K : List Nat} {sz : Nat} {g q : GH} {k : Nat} {s : Sl} {vs : List Value} (r : RdC sz q k s vs) (m : Mv K g.base q) (hk : k ≠ 0) (φ : Nat → Nat) : RdC sz (g.via q φ) (φ k) s vs :=
  ⟨r.rd, r.col.imp id fun ⟨b, h1, h2, h3⟩ => ⟨b, h1, h2, m.at_ φ h3 hk⟩⟩

/-- A slice of named elements, whatever they are made of: what the model runs is to be shown. -/
theorem buildSl_C {P : Program} {t e : TypeId} {n sz : Nat} {parts : Array (Nat × Value)} (g : GH) (c : Nat) (cells : Array Value) {K : Sl → Heap → Prop}
    (hrun : ∀ w : World, (Instr.buildSlice t n parts).run P w = .ok (.slice (some ⟨w.heap.size, 0, none⟩) n n) { w with heap := w.heap.push (.cells cells e (0, 0)) }) (hn : cells.size = n * sz)
    (H : ∀ (s : Sl) (g' : GH), Mv [] g g' → OwnC e sz g' c s cells.toList → s.n = n → s.c = n → K s g'.h) : opK P .slice (Instr.buildSlice t n parts) K g.h := by
  intro w hw
  refine ⟨⟨some ⟨w.heap.size, 0, none⟩, n, n⟩, _, hrun w, ⟨rfl, rfl, rfl⟩, ?_⟩
  rw [hw]
  refine H _ (g.to _ c) (GH.to_ext c (Ext.push _ _)) ⟨⟨by simpa using hn, Nat.le_refl _, .inr ⟨g.h.size, 0, cells, rfl, push_last _ _, by simp; omega, fun i hi => by simp⟩⟩, fun b hb => ?_⟩ rfl rfl
  simp [Sl.blk] at hb
  subst hb
  exact g.to_new _ _ _ (Nat.le_refl _)

/-- Rows of rows, out of rows. -/
theorem RowsC.of {g : GH} {c : Nat} {s : Sl} {sls : List Sl} {xss : List (List Int)} (r : RdC 1 g c s (sls.map slV)) (hl : sls.length = xss.length)
    (h : ∀ (i : Nat) (sl : Sl) (xs : List Int), sls[i]? = some sl → xss[i]? = some xs → RdC 1 g c sl (xs.map byV) ∧ sl.n ≤ sl.c) : RowsC g c s xss := ⟨sls, r, hl, h⟩
theorem RowsC.one {g : GH} {c : Nat} {s a : Sl} {xs : List Int} (r : RdC 1 g c s [slV a]) (ra : RdC 1 g c a (xs.map byV)) (ha : a.n ≤ a.c) : RowsC g c s [xs] :=
  .of (sls := [a]) r rfl fun i sl ys h1 h2 => by
    cases i with
    | zero => simp at h1 h2; subst h1 h2; exact ⟨ra, ha⟩
    | succ i => simp at h1
theorem RowsC.two {g : GH} {c : Nat} {s a b : Sl} {xs ys : List Int} (r : RdC 1 g c s [slV a, slV b]) (ra : RdC 1 g c a (xs.map byV)) (ha : a.n ≤ a.c) (rb : RdC 1 g c b (ys.map byV)) (hb : b.n ≤ b.c) : RowsC g c s [xs, ys] :=
  .of (sls := [a, b]) r rfl fun i sl zs h1 h2 => by
    cases i with
    | zero => simp at h1 h2; subst h1 h2; exact ⟨ra, ha⟩
    | succ i =>
      cases i with
      | zero => simp at h1 h2; subst h1 h2; exact ⟨rb, hb⟩
      | succ i => simp at h1

/-! ### Colours that nobody has -/

def Fresh (g : GH) (k : Nat) : Prop := ∀ b, b < g.h.size → g.γ b ≠ k
theorem le_of_mem_sum {x : Nat} : ∀ {L : List Nat}, x ∈ L → x ≤ L.sum
  | a :: L, h => by
    rw [List.sum_cons]
    rcases List.mem_cons.1 h with rfl | h
    · omega
    · have := le_of_mem_sum h; omega
theorem fresh_exists (g : GH) (L : List Nat) : ∃ x, Fresh g x ∧ x ∉ L := by
  have : ∀ n, ∃ N, ∀ b, b < n → g.γ b < N := fun n => by
    induction n with
    | zero => exact ⟨0, fun b hb => absurd hb (by omega)⟩
    | succ n ih =>
      obtain ⟨N, hN⟩ := ih
      exact ⟨N + g.γ n + 1, fun b hb => by
        by_cases h : b < n
        · have := hN b h; omega
        · have : b = n := by omega
          subst this; omega⟩
  obtain ⟨N, hN⟩ := this g.h.size
  exact ⟨N + L.sum + 1, fun b hb h => by have := hN b hb; omega, fun h => by have := le_of_mem_sum h; omega⟩
/-- Colours that nobody had are told anew. -/
theorem Mv.re {K L : List Nat} {g q : GH} (m : Mv K g q) (φ : Nat → Nat) (h : ∀ k ∈ K, k ∈ L ∨ Fresh g k) : Mv L g (g.via q φ) :=
  ⟨m.size, fun b hb => by simp [GH.via, hb], fun b hb hL => m.same b hb fun hK => by
    rcases h _ hK with h | h
    · exact hL h
    · exact h b hb rfl⟩
theorem Mv.reCol {K : List Nat} {g q : GH} (m : Mv K g q) {φ : Nat → Nat} {k b : Nat} (h : φ k = k ∨ Fresh g k) (hb : q.γ b = k) : (g.via q φ).γ b = φ k := by
  simp only [GH.via]
  split
  · rename_i hlt
    rw [m.col b hlt] at hb
    rcases h with h | h
    · rw [h, hb]
    · exact absurd hb (h b hlt)
  · rw [hb]
theorem BlkC.re {K : List Nat} {g q : GH} {k b : Nat} {cells : Array Value} {e : TypeId} (r : BlkC q k b cells e) (m : Mv K g q) {φ : Nat → Nat} (h : φ k = k ∨ Fresh g k) : BlkC (g.via q φ) (φ k) b cells e := ⟨r.blk, m.reCol h r.col⟩
theorem OwnC.re {K : List Nat} {e : TypeId} {sz : Nat} {g q : GH} {k : Nat} {s : Sl} {vs : List Value} (r : OwnC e sz q k s vs) (m : Mv K g q) {φ : Nat → Nat} (h : φ k = k ∨ Fresh g k) : OwnC e sz (g.via q φ) (φ k) s vs :=
  ⟨r.own, fun b hb => m.reCol h (r.col b hb)⟩
theorem RdC.re {K : List Nat} {sz : Nat} {g q : GH} {k : Nat} {s : Sl} {vs : List Value} (r : RdC sz q k s vs) (m : Mv K g q) {φ : Nat → Nat} (h : φ k = k ∨ Fresh g k) : RdC sz (g.via q φ) (φ k) s vs :=
  ⟨r.rd, r.col.imp id fun ⟨b, h1, h2, h3⟩ => ⟨b, h1, h2, m.reCol h h3⟩⟩
/-- One colour is told anew. -/
def reOne (x k : Nat) : Nat → Nat := fun c => if c = x then k else c
theorem BlkC.base {g : GH} {k b : Nat} {cells : Array Value} {e : TypeId} (r : BlkC g k b cells e) : BlkC g.base 0 b cells e := ⟨r.blk, rfl⟩
theorem OwnC.base {e : TypeId} {sz : Nat} {g : GH} {k : Nat} {s : Sl} {vs : List Value} (r : OwnC e sz g k s vs) : OwnC e sz g.base 0 s vs := ⟨r.own, fun _ _ => rfl⟩
theorem RdC.base {sz : Nat} {g : GH} {k : Nat} {s : Sl} {vs : List Value} (r : RdC sz g k s vs) : RdC sz g.base 0 s vs := ⟨r.rd, r.col.imp id fun ⟨b, h1, h2, _⟩ => ⟨b, h1, h2, rfl⟩⟩
/-- Two colours are told anew. -/
def reTwo (x y k l : Nat) : Nat → Nat := fun c => if c = x then k else if c = y then l else c
theorem reTwo_ne {x y k l c : Nat} (h : c ≠ x) (h2 : c ≠ y) : reTwo x y k l c = c := by simp [reTwo, h, h2]

/-! ### Arrays in memory, copies, results -/

theorem idxArrK_some {b o len sz : Nat} {i : Int} {K : Addr → Prop} (h0 : 0 ≤ i) (h1 : i < len) : idxArrK (some ⟨b, o, none⟩) len i sz K = K ⟨b, o + i.toNat * sz, none⟩ := by
  apply propext
  constructor
  · rintro ⟨a, ha, _, hk⟩
    cases ha
    rwa [addr_add] at hk
  · intro hk
    exact ⟨_, rfl, ⟨h0, h1⟩, by rw [addr_add]; exact hk⟩
theorem idxArr_N {b o len sz i : Nat} {K : Addr → Prop} (hsz : sz = 1) (h1 : i < len) (hK : K ⟨b, o + i, none⟩) : idxArrK (some ⟨b, o, none⟩) len (i : Int) sz K := by
  rw [idxArrK_some (by omega) (by omega), hsz, Nat.mul_one, Int.toNat_natCast]; exact hK
theorem sliceArr_C {b o len sz : Nat} {lo hi : Option Int} (l h : Nat) {K : Sl → Prop} (hlo : Bound lo 0 h l) (hhi : Bound hi len len h) (hl : l < len) (hK : K ⟨some ⟨b, o + l * sz, none⟩, h - l, len - l⟩) : sliceArrK (some ⟨b, o, none⟩) len lo hi none sz K := by
  refine ⟨_, l, h, len, rfl, rfl, hhi, hlo, ?_⟩
  rw [if_neg (by omega), addr_add]
  exact hK
theorem overA_all {cells : Array Value} {vs : List Value} (h : vs.length = cells.size) : overA cells 0 vs = ⟨vs⟩ := by
  unfold overA
  simp [h]

section
variable {P : Program}

theorem copy_C {dT sT ty e e' : TypeId} (hu : P.underlying dT = some (.slice e)) (hi : (P.info? e).map (·.size) = some 1) {g : GH} {c b o : Nat} {cells : Array Value} (hb : BlkC g c b cells e') {s x : Sl} {ws : List Value} (hs : s.a = some ⟨b, o, none⟩) (hroom : o + s.n ≤ cells.size)
    (hx : Rd 1 g.h x ws) (hone : ∀ v ∈ ws, v.oneCell' = true) {K : Int → Heap → Prop} (hK : ∀ g' : GH, Mv [c] g g' → BlkC g' c b (overA cells o (ws.take (min x.n s.n))) e' → K ((min x.n s.n : Nat) : Int) g'.h) :
    opK P (.int .i64) (Builtin.copy_ #[dT, sT] ty #[.slice s.a s.n s.c, .slice x.a x.n x.c]) K g.h := by
  intro w hw
  have hxl := hx.len
  have hx' : Rd 1 w.heap ⟨x.a, min x.n s.n, x.c⟩ (ws.take (min x.n s.n)) := by rw [hw]; exact hx.take (by omega)
  have hfc := firstCells_run (P := P) w hx'
  have hfc' : (Builtin.firstCells 1 (min x.n s.n) (.slice x.a x.n x.c)).run P w = .ok ⟨ws.take (min x.n s.n)⟩ w := by
    have e : Builtin.firstCells 1 (min x.n s.n) (.slice x.a x.n x.c) = Builtin.firstCells 1 (min x.n s.n) (.slice x.a (min x.n s.n) x.c) := by cases x.a <;> rfl
    rw [e]
    exact hfc
  have hblk : w.heap[b]? = some (.cells cells e' (0, 0)) := by rw [hw]; exact hb.blk
  have hlt : (ws.take (min x.n s.n)).length = min x.n s.n := by rw [List.length_take]; omega
  have hst := run_storeCells_at (P := P) b o e' (ws.take (min x.n s.n)) 0 cells w hblk (by rw [hlt]; omega) (fun v hv => hone v (List.mem_of_mem_take hv))
  have hsize : (sizeOf e).run P w = .ok 1 w := by
    cases hq : P.info? e with
    | none => rw [hq] at hi; cases hi
    | some i => rw [hq] at hi; simp at hi; simp [sizeOf, run_typeInfo hq, hi]
  refine ⟨((min x.n s.n : Nat) : Int), w.setRow b (overA cells o (ws.take (min x.n s.n))), ?_, setRow_same _ _ _, ?_⟩
  · unfold Builtin.copy_
    simp only [List.getElem?_toArray, List.getElem?_cons_zero, List.getElem?_cons_succ, Sem.run_bind, run_underlying hu, Result.andThen_ok, Sem.run_pure, Builtin.lenOf, hsize, hs]
    have hm : Nat.min x.n s.n = min x.n s.n := rfl
    rw [hm, hfc']
    simp only [Result.andThen_ok]
    simp only [Nat.add_zero] at hst
    rw [hst]
    rfl
  · have hb' : Blk w.heap b cells e' := hblk
    rw [setRow_heap_eq hb', hw]
    refine hK (g.to _ 0) (GH.to_frm 0 (Frm.setBlk _ b _ e') fun y _ hy => by rw [hy]; exact hb.col) ⟨setBlk_self hb.blk, ?_⟩
    rw [g.to_old _ _ _ (lt_of_get hb.blk)]; exact hb.col

theorem loadAt_agg {t : TypeId} {p : Option Addr} {h : Heap} {K : Array Value → Prop} (hd : doesLoad P t (.pointer p) = .quietP fun h K => loadAggK (sizeOfT P t) h p fun cs => K (.agg cs)) (H : loadAggK (sizeOfT P t) h p K) : quietK P .agg (Instr.loadAt t (.pointer p)) K h := by
  have hm := meets_load (P := P) t (.pointer p)
  rw [hd] at hm
  obtain ⟨b, o, c, e, fz, hp, hb, hsz, hk⟩ := H
  obtain ⟨v, hv, rfl⟩ := hm h (fun v => v = .agg (c.extract o (o + sizeOfT P t))) ⟨b, o, c, e, fz, hp, hb, hsz, rfl⟩
  exact ⟨_, fun w hw => hv w (by rw [hw]; exact HExt.refl _), hk⟩
end

/-- A loop whose rounds are counted by what the heap tells. -/
theorem loopW_ruleM {S : Type} {F : (S → Heap → Prop) → S → Heap → Prop} {s : S} {h : Heap} (I : Nat → S → Heap → Prop) (n : Nat) (h0 : I n s h)
    (round : ∀ (X : S → Heap → Prop) (n : Nat) (s : S) (h : Heap), I n s h → (∀ m s' h', I m s' h' → m < n → X s' h') → F X s h) : loopW F s h := by
  intro X hX
  have key : ∀ (n : Nat) (s : S) (h : Heap), I n s h → X s h := by
    intro n
    induction n using Nat.strongRecOn with
    | _ n ih => intro s h hI; exact hX s h (round X n s h hI fun m s' h' hI' hlt => ih m hlt s' h' hI')
  exact key n s h h0

theorem OwnC.drop {e : TypeId} {g : GH} {c : Nat} {s : Sl} {vs : List Value} (r : OwnC e 1 g c s vs) {n sz : Nat} (hsz : sz = 1) (hn : n ≤ vs.length) :
    OwnC e 1 g c ⟨if s.c = n then s.a else s.a.map (·.add (n * sz)), s.n - n, s.c - n⟩ (vs.drop n) := by
  subst hsz
  have hl := r.len
  have hc := r.cap
  refine ⟨⟨by simp [hl], by show s.n - n ≤ s.c - n; omega, ?_⟩, fun b hb => ?_⟩
  · rcases r.own.2.2 with ⟨ha, h0⟩ | ⟨b, o, cs, ha, hb, hroom, hcs⟩
    · refine .inl ⟨by simp [ha], by show s.c - n = 0; omega⟩
    · by_cases hcn : s.c = n
      · refine .inr ⟨b, o, cs, by simp [hcn, ha], hb, by simp [hcn]; omega, fun i hi => ?_⟩
        rw [List.length_drop] at hi
        omega
      · refine .inr ⟨b, o + n, cs, by simp [hcn, ha, addr_add], hb, by show o + n + (s.c - n) * 1 ≤ cs.size; omega, fun i hi => ?_⟩
        rw [List.length_drop] at hi
        rw [List.getElem?_drop, Nat.add_assoc, hcs (n + i) (by omega)]
  · refine r.col b ?_
    simp only [Sl.blk] at hb ⊢
    split at hb
    · exact hb
    · cases ha : s.a with
      | none => rw [ha] at hb; cases hb
      | some a => rw [ha] at hb; simp [Addr.add] at hb ⊢; split at hb <;> simpa using hb

/-- The rest of a slice. -/
theorem slice_from {s : Sl} {i : Int} {n sz : Nat} {K : Sl → Prop} (hi : i = (n : Int)) (hn : n ≤ s.n) (hc : s.n ≤ s.c) (hK : K ⟨if s.c = n then s.a else s.a.map (·.add (n * sz)), s.n - n, s.c - n⟩) : sliceK s (some i) none none sz K :=
  ⟨n, s.n, s.c, rfl, rfl, ⟨hi, hn⟩, hK⟩

theorem RdC.mid {g : GH} {c : Nat} {s : Sl} {vs : List Value} (r : RdC 1 g c s vs) {l h sz : Nat} (hsz : sz = 1) (hl : l ≤ h) (hh : h ≤ vs.length) (hcap : s.n ≤ s.c) :
    RdC 1 g c ⟨if s.c = l then s.a else s.a.map (·.add (l * sz)), h - l, s.c - l⟩ ((vs.drop l).take (h - l)) :=
  (r.drop hsz (by omega) hcap).take (by rw [List.length_drop]; omega)
end Go.Ev
