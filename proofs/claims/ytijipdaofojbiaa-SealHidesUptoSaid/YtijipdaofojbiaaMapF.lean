/-
  Maps whose keys are data of many cells; bytes as a string; a map, cloned. Nothing of a given program stands here.
-/
import Derived.Test.YtijipdaofojbiaaMaps
import Derived.Test.YtijipdaofojbiaaFlat
import Derived.DeepKeys3
import Derived.WideKeyRuns
import Derived.Laws.BytesString
import Derived.Laws.Externs
set_option linter.unusedSimpArgs false
set_option linter.unusedVariables false
namespace Go.Ev
open Go

/-! ### Keys -/

/-- What is to be known of a type of keys. -/
structure KeyF (P : Program) (s : Sh) (t : TypeId) (m : Nat) : Prop where
  hm : m ≤ 10000
  fl : s.flat = true
  fit : s.fit P (.inl t) = true
  hk : P.keyTypeAt m t = true
  hsz : P.cellsOf t = s.size
  wide : (match P.underlying t with | some (.array _ _) | some (.struct _) => true | _ => false) = true

/-- Where a thing stands first. -/
def idxIn {α : Type} [DecidableEq α] (y : α) : List α → Option Nat
  | [] => none
  | x :: xs => if y = x then some 0 else (idxIn y xs).map (· + 1)

/-- The entries of a map in which each thing has the number of those ahead of it. -/
def entsFrom (s : Sh) : Nat → List s.T → List MapEntry
  | _, [] => []
  | i, x :: xs => { key := .agg ⟨s.enc x⟩, val := .int .i64 i, born := i } :: entsFrom s (i + 1) xs
theorem entsFrom_len (s : Sh) : ∀ (i : Nat) (xs : List s.T), (entsFrom s i xs).length = xs.length
  | _, [] => rfl
  | i, x :: xs => by simp [entsFrom, entsFrom_len s (i + 1) xs]
theorem entsFrom_snoc (s : Sh) (y : s.T) : ∀ (i : Nat) (xs : List s.T), entsFrom s i (xs ++ [y]) = entsFrom s i xs ++ [{ key := .agg ⟨s.enc y⟩, val := .int .i64 ((i + xs.length : Nat) : Int), born := i + xs.length }]
  | i, [] => rfl
  | i, x :: xs => by
    have := entsFrom_snoc s y (i + 1) xs
    simp only [List.cons_append, entsFrom, this, List.length_cons, Nat.add_assoc, Nat.add_comm 1]

section
variable {P : Program}

theorem KeyF.formed {s : Sh} {t : TypeId} {m : Nat} (kf : KeyF P s t m) {z : s.T} (oz : s.ok z) : (Value.agg ⟨s.enc z⟩).formed P t = true := by
  have hl := Sh.enc_length kf.fl oz
  have hw := kf.wide
  have hsz := kf.hsz
  simp only [Value.formed]
  split at hw <;> first
    | (rename_i hu; rw [hu]; simp [hl, hsz])
    | cases hw

theorem KeyF.equal {s : Sh} {t : TypeId} {m : Nat} (kf : KeyF P s t m) {x y : s.T} (okx : s.ok x) (oky : s.ok y) (w : World) : ∃ r : Bool, (r = true ↔ x = y) ∧ (Op.equal t (.agg ⟨s.enc x⟩) (.agg ⟨s.enc y⟩)).run P w = .ok r w := by
  have hE := run_equalIn_deep (P := P) (10000 - m) m t kf.hk
  have hx := (keyLits_enc (P := P) s).1 m t x kf.fl kf.fit kf.hk okx
  have hy := (keyLits_enc (P := P) s).1 m t y kf.fl kf.fit kf.hk oky
  obtain ⟨r', hr', hiff⟩ := hE w m m (.agg ⟨s.enc x⟩) (.agg ⟨s.enc y⟩) _ _ (kf.formed okx) (kf.formed oky) hx hy
  refine ⟨r', hiff.trans ⟨fun e => Sh.enc_inj kf.fl okx oky (Sh.lits_inj kf.fl okx oky e), fun e => by rw [e]⟩, ?_⟩
  have hm := kf.hm
  have hd : 10000 - m + m = 10000 := by omega
  rw [hd] at hr'
  exact hr'

theorem KeyF.check {s : Sh} {t : TypeId} {m : Nat} (kf : KeyF P s t m) {x : s.T} (okx : s.ok x) (em : Bool) (w : World) : (Instr.checkKey em 10000 t (.agg ⟨s.enc x⟩)).run P w = .ok () w := by
  have hx := (keyLits_enc (P := P) s).1 m t x kf.fl kf.fit kf.hk okx
  have := run_checkKey_deep em (10000 - m) m t kf.hk w _ (.agg ⟨s.enc x⟩) _ (kf.formed okx) hx
  have hm := kf.hm
  rwa [show 10000 - m + m = 10000 by omega] at this

theorem KeyF.asking {s : Sh} [DecidableEq s.T] {t : TypeId} {m : Nat} (kf : KeyF P s t m) {y : s.T} (oky : s.ok y) (w : World) : ∀ (xs : List s.T) (i j : Nat), (∀ x ∈ xs, s.ok x) →
    (Instr.findAsking t (.agg ⟨s.enc y⟩) (entsFrom s i xs) j).run P w = .ok ((idxIn y xs).map fun k => (j + k, .int .i64 ((i + k : Nat) : Int))) w
  | [], i, j, _ => by simp [entsFrom, Instr.findAsking, idxIn]
  | x :: xs, i, j, h => by
    obtain ⟨r, hr, he⟩ := kf.equal oky (h x List.mem_cons_self) w
    have ih := KeyF.asking kf oky w xs (i + 1) (j + 1) fun z hz => h z (List.mem_cons_of_mem _ hz)
    by_cases e : y = x
    · have : r = true := hr.2 e
      subst this
      simp only [entsFrom, Instr.findAsking, Sem.run_bind, he, Result.andThen_ok, if_true, Sem.run_pure, idxIn, if_pos e]
      simp
    · have : r = false := by cases r with
        | true => exact absurd (hr.1 rfl) e
        | false => rfl
      subst this
      simp only [entsFrom, Instr.findAsking, Sem.run_bind, he, Result.andThen_ok, Bool.false_eq_true, if_false, ih, idxIn, if_neg e]
      cases idxIn y xs with
      | none => rfl
      | some k => simp [Nat.add_assoc, Nat.add_comm 1]

theorem KeyF.find {s : Sh} [DecidableEq s.T] {t : TypeId} {m : Nat} (kf : KeyF P s t m) {y : s.T} (oky : s.ok y) {xs : List s.T} (h : ∀ x ∈ xs, s.ok x) (w : World) :
    (Instr.findKey t (.agg ⟨s.enc y⟩) (entsFrom s 0 xs)).run P w = .ok ((idxIn y xs).map fun k => (k, .int .i64 (k : Int))) w := by
  have hw := kf.wide
  have e : (Instr.findKey t (.agg ⟨s.enc y⟩) (entsFrom s 0 xs)).run P w = (Instr.findAsking t (.agg ⟨s.enc y⟩) (entsFrom s 0 xs)).run P w := by
    split at hw
    · rename_i hu; exact run_findKey_eq w (by rw [hu]) _ _
    · rename_i hu; exact run_findKey_eq w (by rw [hu]) _ _
    · cases hw
  rw [e, kf.asking oky w xs 0 0 h]
  simp

/-- A map that numbers things. -/
def NumC (s : Sh) (g : GH) (c r : Nat) (xs : List s.T) : Prop := MapC g c r (entsFrom s 0 xs) xs.length ∧ ∀ x ∈ xs, s.ok x

/-- A thing's number, if there is one. -/
theorem numLookup_C {s : Sh} [DecidableEq s.T] {t kt e : TypeId} {m : Nat} (kf : KeyF P s kt m) {g : GH} {c r : Nat} {xs : List s.T} {y : s.T} (n : NumC s g c r xs) (oky : s.ok y) (hu : P.underlying t = some (.map kt e))
    (hz : ∀ w : World, (zeroValue e).run P w = .ok (.int .i64 0) w) {K : Int × Bool → Prop} (H : K (match idxIn y xs with | some k => ((k : Int), true) | none => (0, false))) :
    quietK P (.pair (.int .i64) .bool) (Instr.lookup t (.map (some r)) (.agg ⟨s.enc y⟩) true) K g.h := by
  refine ⟨_, fun w hw => ?_, H⟩
  have hget : w.heap[r]? = some (.map ⟨entsFrom s 0 xs⟩ xs.length) := by rw [hw]; exact n.1.at_
  unfold Instr.lookup
  simp only [Sem.run_bind, Sem.run_pure, run_underlying hu, Result.andThen_ok, run_getObj hget, kf.check oky, kf.find oky n.2]
  cases idxIn y xs with
  | none => simp [Sem.run_bind, Sem.run_pure, hz, Kd.inj]
  | some k => simp [Sem.run_bind, Sem.run_pure, Kd.inj]

/-- A new thing gets the next number. -/
theorem numNew_C {s : Sh} [DecidableEq s.T] {t kt e : TypeId} {m : Nat} (kf : KeyF P s kt m) {g : GH} {c r : Nat} {xs : List s.T} {y : s.T} (n : NumC s g c r xs) (oky : s.ok y) (hu : P.underlying t = some (.map kt e)) (hy : idxIn y xs = none)
    {K : Heap → Prop} (H : ∀ g' : GH, Mv [c] g g' → NumC s g' c r (xs ++ [y]) → K g'.h) : unitK P (Instr.mapUpdate t (.map (some r)) (.agg ⟨s.enc y⟩) (.int .i64 xs.length)) K g.h := by
  refine mapNew_C n.1 hu (kf.check oky false) (fun w => by rw [kf.find oky n.2, hy]; rfl) fun g' m' x => H g' m' ⟨?_, ?_⟩
  · rw [entsFrom_snoc]
    simpa using x
  · intro x hx
    rcases List.mem_append.1 hx with h | h
    · exact n.2 x h
    · rw [List.mem_singleton.1 h]; exact oky

theorem numLen_C {s : Sh} {t it kt e : TypeId} {g : GH} {c r : Nat} {xs : List s.T} (hu : P.underlying t = some (.map kt e)) (n : NumC s g c r xs) {K : Int → Prop} (H : K xs.length) : quietK P (.int .i64) (Builtin.len_ #[t] it #[.map (some r)]) K g.h := by
  refine ⟨_, fun w hw => ?_, H⟩
  have hget : w.heap[r]? = some (.map ⟨entsFrom s 0 xs⟩ xs.length) := by rw [hw]; exact n.1.at_
  simp [Builtin.len_, Sem.run_bind, Sem.run_pure, run_underlying hu, run_getObj hget, Kd.inj, entsFrom_len, goInt]

theorem NumC.mv {s : Sh} {K : List Nat} {g g' : GH} {c r : Nat} {xs : List s.T} (x : NumC s g c r xs) (m : Mv K g g') (hk : c ∉ K) : NumC s g' c r xs := ⟨x.1.mv m hk, x.2⟩
theorem NumC.base {s : Sh} {g : GH} {k r : Nat} {xs : List s.T} (x : NumC s g k r xs) : NumC s g.base 0 r xs := ⟨x.1.base, x.2⟩
theorem NumC.via {s : Sh} {K : List Nat} {g q : GH} {k r : Nat} {xs : List s.T} (x : NumC s q k r xs) (m : Mv K g.base q) (hk : k ≠ 0) (φ : Nat → Nat) : NumC s (g.via q φ) (φ k) r xs := ⟨x.1.via m hk φ, x.2⟩
theorem NumC.re {s : Sh} {K : List Nat} {g q : GH} {k r : Nat} {xs : List s.T} (x : NumC s q k r xs) (m : Mv K g q) {φ : Nat → Nat} (h : φ k = k ∨ Fresh g k) : NumC s (g.via q φ) (φ k) r xs := ⟨x.1.re m h, x.2⟩

/-- A map, cloned. -/
theorem numClone_C {s : Sh} {t : TypeId} {f : FuncId} {g : GH} {c r : Nat} {xs : List s.T} (n : NumC s g c r xs)
    (hx : (P.funcs[f]?).map (fun fn => (fn.name == "runtime.NumGoroutine", fn.body.isNone, Extern.findNext fn, Extern.find fn)) = some (false, true, none, some Extern.MapsClone.clone)) (c' : Nat)
    {K : Value → Heap → Prop} (H : ∀ (r' : Nat) (g' : GH), Mv [] g g' → NumC s g' c' r' xs → K (.iface t (.map (some r'))) g'.h) : externK P .any f #[.iface t (.map (some r))] K g.h := by
  intro w hw
  have hget : w.heap[r]? = some (.map ⟨entsFrom s 0 xs⟩ xs.length) := by rw [hw]; exact n.1.at_
  obtain ⟨fn, hf, hx⟩ := Option.map_eq_some_iff.1 hx
  simp only [Prod.mk.injEq] at hx
  obtain ⟨hname, hb, hn, he⟩ := hx
  refine ⟨.iface t (.map (some w.heap.size)), { w with heap := w.heap.push (.map ⟨entsFrom s 0 xs⟩ xs.length) }, ?_, ⟨rfl, rfl, rfl⟩, ?_⟩
  · rw [run_callFunc_extern hf hname hb hn he]
    have e1 : Extern.MapsClone.clone #[.iface t (.map (some r))] = (getObj r >>= fun o => match o with
        | .map entries clock => newObj (.map entries clock) >>= fun n => pure (.iface t (.map (some n)))
        | _ => stuck "maps.clone: a map expected") := rfl
    rw [e1]
    simp only [Sem.run_bind, run_getObj hget, Result.andThen_ok]
    simp [newObj, Sem.run, Kd.inj]
  · rw [hw]
    exact H _ (g.to _ c') (GH.to_ext c' (Ext.push _ _)) ⟨⟨push_last _ _, g.to_new _ _ _ (Nat.le_refl _)⟩, n.2⟩

/-! ### Bytes as a string -/

def strOf (xs : List Int) : ByteArray := xs.foldl (fun r n => r.push (UInt8.ofNat n.toNat)) ByteArray.empty

theorem toStr_C {src dst e : TypeId} (hs : P.underlying src = some (.slice e)) (he : P.underlying e = some (.int .u8)) (hd : P.underlying dst = some .string) {g : GH} {c : Nat} {v : Sl} {xs : List Int} (r : RdC 1 g c v (xs.map (Value.int .u8)))
    {K : ByteArray → Heap → Prop} (H : K (strOf xs) g.h) : opK P .str (convert src dst (.slice v.a v.n v.c)) K g.h := by
  intro w hw
  refine ⟨strOf xs, w, ?_, Same.refl w, by rw [hw]; exact H⟩
  rw [run_convert_bytes_string w src dst e v.a v.n v.c hs he hd]
  obtain ⟨hl, hr⟩ := r.rd
  have hn : v.n = xs.length := by simpa using hl.symm
  rcases hr with h0 | ⟨b, o, cs, e', fz, ha, hb, hc⟩
  · have : xs = [] := by simpa using h0
    subst this
    simp at hn
    rw [hn]
    cases hv : v.a with
    | none => simp [Conv.bytesToString, Sem.run_pure, strOf, Kd.inj]
    | some a =>
      rw [run_bytesToString w a 0 v.c [] (by simp [loadCells, loadCellsFrom, Sem.run_pure])]
      rfl
  · rw [ha]
    have hl := run_loadCells_list (P := P) w ⟨b, o, none⟩ (xs.map (Value.int .u8)) (fun j v' hv => by
      rw [← hw] at hb
      rw [addr_add, cell_of_row w b (o + j) cs e' fz hb, hc j (List.getElem?_eq_some_iff.1 hv).1]; exact hv)
    rw [List.length_map, ← hn] at hl
    rw [run_bytesToString w _ v.n v.c xs (by rw [hl])]
    rfl
end
end Go.Ev
