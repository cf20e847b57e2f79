/-
  Makers of tags, real ones and tables: what they tell; copies.
-/
import Derived.Test.YtijipdaofojbiaaKMac
import Derived.Test.YtijipdaofojbiaaKSlices
import Derived.Test.YtijipdaofojbiaaMapF
import Derived.Test.YtijipdaofojbiaaConv
set_option linter.unusedSimpArgs false
set_option linter.unusedVariables false
namespace Go.Proofs.Ytijipdaofojbiaa
open Go Go.Ev

/-! ### Numbers' tags -/

def eightB (n : Int) : List Int := [56, 48, 40, 32, 24, 16, 8, 0].map fun k : Nat => IntKind.u8.wrap (Int.fdiv (IntKind.u64.wrap n) (2 ^ k))
theorem eightB_length (n : Int) : (eightB n).length = 8 := rfl
theorem eightB_get (n : Int) (i : Nat) (h : i < 8) : (eightB n)[i]? = some (IntKind.u8.wrap (Int.fdiv (IntKind.u64.wrap n) (2 ^ min (Int.toNat (IntKind.i64.wrap (56 - (IntKind.i64.wrap (8 * (i : Int)))))) (IntKind.bits .u64)))) := by
  have : i = 0 ∨ i = 1 ∨ i = 2 ∨ i = 3 ∨ i = 4 ∨ i = 5 ∨ i = 6 ∨ i = 7 := by omega
  rcases this with rfl | rfl | rfl | rfl | rfl | rfl | rfl | rfl <;> rfl
theorem eightB_byte (n : Int) : ∀ x ∈ eightB n, isByte x := by
  intro x hx
  obtain ⟨k, _, rfl⟩ := List.mem_map.1 hx
  exact wrapIsByte _

theorem eight_spec (g : GH) (c : Nat) (n : Int) {R : Value → Heap → Prop} (H : ∀ (s : Sl) (g' : GH), Mv [] g g' → OwnC T.uint8 1 g' c s ((eightB n).map byV) → R (.slice s.a s.n s.c) g'.h) : HC Try.prog F.tags_eight #[.int .i64 n] R g.h := by
  refine tags_eight.calls ?_
  unfold tags_eight.body
  refine loopW_rule (fun st h' => ∃ (i : Nat) (s : Sl) (q : GH), i ≤ 8 ∧ st = (s, (i : Int)) ∧ h' = q.h ∧ Mv [1] g.base q ∧ OwnC T.uint8 1 q 1 s (((eightB n).take i).map byV)) (fun st => 8 - st.2.toNat)
    ⟨0, ⟨none, 0, 0⟩, g.base, by omega, rfl, rfl, Mv.refl _ _, OwnC.nil _ _ _ _⟩ ?_
  rintro X _ _ ⟨i, s, q, hi, rfl, rfl, m, o⟩ hX
  dsimp only
  by_cases hlt : i < 8
  · rw [if_pos (by simp; omega)]
    have hk : IntKind.i64.wrap (56 - IntKind.i64.wrap (8 * (i : Int))) = 56 - 8 * (i : Int) := by rw [wrapI64 (n := 8 * (i : Int)) (by omega) (by omega), wrapI64 (by omega) (by omega)]
    refine ⟨by rw [hk]; omega, ?_⟩
    refine newSl_C q 2 rfl fun s1 q1 m1 o1 hn1 hc1 => ?_
    have h4 := o.len
    simp only [List.length_map, List.length_take, eightB_length] at h4
    refine append_C (e := T.uint8) (e2 := T.uint8) (sz := 1) (by_ := 1) (z := .int .u8 0) (by kernel_rfl) (by kernel_rfl) (by kernel_rfl) rfl (by omega) (o.mv m1 (by simp)) o1.rd.rd (by simp [Value.oneCell']) (by omega) fun s3 q3 m3 o3 hn3 _ => ?_
    rw [wrapSucc (by omega)]
    refine hX _ _ ⟨i + 1, s3, q3, by omega, rfl, rfl, (m.step m1 (by simp)).step m3 (by simp), ?_⟩ (by simp; omega)
    have hget := eightB_get n i hlt
    have hl : i < (eightB n).length := hlt
    rw [List.getElem?_eq_getElem hl] at hget
    rw [List.take_succ_eq_append_getElem hl, List.map_append, Option.some.inj hget]
    exact o3
  · rw [if_neg (by simp; omega)]
    have hi' : i = 8 := by omega
    subst hi'
    exact H s (g.via q fun _ => c) (m.via (by simp) _) (o.via m (by simp) _)

def zugB : List Int := [122, 117, 103, 122, 119, 97, 110, 103]
/-- The tag of a number. -/
def numT (n : Int) : List Int := zugB ++ eightB n ++ List.replicate 16 0
theorem numT_length (n : Int) : (numT n).length = 32 := rfl
theorem numT_byte (n : Int) : ∀ x ∈ numT n, isByte x := by
  intro x hx
  unfold numT at hx
  simp only [List.mem_append] at hx
  rcases hx with (h | h) | h
  · revert x; simp [zugB, isByte]
  · exact eightB_byte n x h
  · rw [List.eq_of_mem_replicate h]; simp [isByte]

/-- A row that is held by its own conversion. -/
theorem numTail {q : GH} {t : Nat} (n : Int) {a b : Sl} (b1 : BlkC q 1 t (Array.replicate 32 (.int .u8 0)) T.api_Tag) (ra : RdC 1 q 2 a (zugB.map byV)) (ha : a.n ≤ a.c) (rb : RdC 1 q 2 b ((eightB n).map byV)) (hb : b.n ≤ b.c)
    {R : Value → Heap → Prop} (H : ∀ g' : GH, Mv [1, 2] q g' → R (.agg (tagA (numT n))) g'.h) :
    newSlK q.h 2 #[(.slice a.a a.n a.c), (.slice b.a b.n b.c)] T.sl_uint8 (fun (v_6 : Sl) (h : Heap) =>
    callK Try.prog .slice F.slices_Concat_byte_byte #[(.slice v_6.a v_6.n v_6.c)] (fun (v_7 : Sl) (h : Heap) =>
    opK Try.prog (.int .i64) (Builtin.copy_ #[T.sl_uint8, T.sl_uint8] T.int #[(.slice (some ⟨t, 0 + 0 * sizeOfT Try.prog T.uint8, none⟩) (32 - 0) (32 - 0)), (.slice v_7.a v_7.n v_7.c)]) (fun (v_8 : Int) (h : Heap) =>
    loadAggK (sizeOfT Try.prog T.api_Tag) h (some ⟨t, 0, none⟩) (fun (v_9 : Array Value) =>
    storeAggK (sizeOfT Try.prog T.api_Tag) h (some ⟨t, 0, none⟩) v_9 (fun (h : Heap) =>
    quietK Try.prog .agg (Instr.loadAt T.api_Tag (.pointer (some ⟨t, 0, none⟩))) (fun (r_10 : Array Value) =>
    R (.agg r_10) h) h))) h) h) := by
  have m : Mv [1, 2] q q := Mv.refl _ _
  refine newSl_C q 2 rfl fun s1 q1 m1 o1 hn1 hc1 => ?_
  replace m := m.step m1 (by simp)
  replace b1 := b1.mv m1 (by simp)
  have rr : RowsC q1 2 s1 [zugB, eightB n] := RowsC.two (a := a) (b := b) o1.rd (ra.mv m1 (by simp)) ha (rb.mv m1 (by simp)) hb
  refine concat_spec q1 2 s1 _ rr (by simp [total, zugB, eightB]) (by simp) fun s2 q2 m2 o2 => ⟨_, rfl, ?_⟩
  replace m := m.step m2 (by simp)
  replace b1 := b1.mv m2 (by simp)
  have hl := o2.len
  have h16 : ([zugB, eightB n].flatten.map byV).length = 16 := rfl
  refine copy_C (e := T.uint8) (by kernel_rfl) (by kernel_rfl) b1 (s := ⟨some ⟨t, 0 + 0 * _, none⟩, 32 - 0, 32 - 0⟩) (by rw [Nat.zero_mul]) (by simp) o2.rd.rd (oneBy _) fun q3 m3 b3 => ?_
  replace m := m.step m3 (by simp)
  have hmin : min s2.n (32 - 0) = 16 := by rw [hl, h16]; rfl
  have e3 : overA (Array.replicate 32 (.int .u8 0)) 0 (([zugB, eightB n].flatten.map byV).take (min s2.n (32 - 0))) = tagA (numT n) := by
    rw [hmin]; rfl
  dsimp only at b3
  rw [e3] at b3
  refine loadAgg_whole b3 (tagA_size (numT_length n)) ?_
  refine result_C (n := 32) szTag dTag b3 (by simp [numT_length]) (by simp [numT_length]) (fun v hv => oneBy _ v hv) fun q5 m5 => ?_
  exact H q5 (m.step m5 (by simp))

theorem number_spec (g : GH) (n : Int) {R : Value → Heap → Prop} (H : ∀ g' : GH, Mv [] g g' → R (.agg (tagA (numT n))) g'.h) : HC Try.prog F.tags_number #[.int .i64 n] R g.h := by
  refine tags_number.calls ?_
  unfold tags_number.body
  rw [zTag]
  refine new_C g.base 1 fun t q1 m1 b1 => ?_
  have m := (Mv.refl [1, 2] g.base).step m1 (by simp)
  refine sliceArr_C 0 32 rfl rfl (by decide) ?_
  have fin : ∀ q : GH, Mv [1, 2] g.base q → ∀ g' : GH, Mv [1, 2] q g' → R (.agg (tagA (numT n))) g'.h := fun q m g' m' => H (g.via g' fun _ => 0) ((m.step m' (by simp)).via (by simp) _)
  refine ⟨?_, ?_⟩
  · refine newSl_C q1 2 rfl fun s2 q2 m2 o2 hn2 hc2 => ?_
    replace m := m.step m2 (by simp)
    replace b1 := b1.mv m2 (by simp)
    refine ⟨?_, ?_⟩
    · refine convRd (e := T.uint8) (by kernel_rfl) (by kernel_rfl) o2 (by simp) fun q3 m3 r3 k3 => ?_
      replace m := m.step m3 (by simp)
      replace b1 := b1.mv m3 (by simp)
      refine eight_spec q3 2 n fun s4 q4 m4 o4 => ⟨_, rfl, ?_⟩
      replace m := m.step m4 (by simp)
      replace b1 := b1.mv m4 (by simp)
      exact numTail n b1 (r3.mv m4 (by simp)) (by omega) o4.rd o4.cap (fin q4 m)
    · refine eight_spec q2 2 n fun s4 q4 m4 o4 => ⟨_, rfl, ?_⟩
      replace m := m.step m4 (by simp)
      replace b1 := b1.mv m4 (by simp)
      refine convRd (e := T.uint8) (by kernel_rfl) (by kernel_rfl) (o2.mv m4 (by simp)) (by simp) fun q3 m3 r3 k3 => ?_
      replace m := m.step m3 (by simp)
      replace b1 := b1.mv m3 (by simp)
      exact numTail n b1 r3 (by omega) (k3 _ _ _ o4.rd) o4.cap (fin q3 m)
  · refine eight_spec q1 2 n fun s4 q4 m4 o4 => ⟨_, rfl, ?_⟩
    replace m := m.step m4 (by simp)
    replace b1 := b1.mv m4 (by simp)
    refine newSl_C q4 2 rfl fun s2 q2 m2 o2 hn2 hc2 => ?_
    replace m := m.step m2 (by simp)
    replace b1 := b1.mv m2 (by simp)
    refine convRd (e := T.uint8) (by kernel_rfl) (by kernel_rfl) o2 (by simp) fun q3 m3 r3 k3 => ?_
    replace m := m.step m3 (by simp)
    replace b1 := b1.mv m3 (by simp)
    exact numTail n b1 r3 (by omega) (k3 _ _ _ (o4.rd.mv m2 (by simp))) o4.cap (fin q3 m)

/-! ### Things that are asked -/

abbrev ShThing : Sh := .pair (.int .u8) (.pair .str (.pair .str (.pair (.int .i64) .unit)))
instance : DecidableEq ShThing.T := inferInstanceAs (DecidableEq (Int × ByteArray × ByteArray × Int × Unit))
theorem keyThing : KeyF Try.prog ShThing T.tags_thing 10 := ⟨by decide, rfl, by kernel_rfl, by kernel_rfl, by kernel_rfl, by kernel_rfl⟩
theorem szThing : sizeOfT Try.prog T.tags_thing = 4 := by kernel_rfl
theorem szBook : sizeOfT Try.prog T.tags_book = 1 := by kernel_rfl

/-- What a table says of a thing, and what it was asked then. -/
def askT (asked : List ShThing.T) (x : ShThing.T) : Nat × List ShThing.T :=
  match idxIn x asked with
  | some k => (k, asked)
  | none => (asked.length, asked ++ [x])

theorem ask_spec {g : GH} {c r : Nat} {asked : List ShThing.T} (n : NumC ShThing g c r asked) {x : ShThing.T} (ok : ShThing.ok x) {R : Value → Heap → Prop}
    (H : ∀ g' : GH, Mv [c] g g' → NumC ShThing g' c r (askT asked x).2 → R (.agg (tagA (numT (askT asked x).1))) g'.h) : HC Try.prog F.tags_book_ask #[.agg #[.map (some r)], .agg ⟨ShThing.enc x⟩] R g.h := by
  refine tags_book_ask.calls ?_
  unfold tags_book_ask.body
  obtain ⟨y, hy, hyn⟩ := fresh_exists g [c]
  have hyc : ¬ y = c := by simpa using hyn
  have m : Mv [c, y] g g := Mv.refl _ _
  refine new_C g y fun p1 g1 m1 b1 => ?_
  replace m := m.step m1 (by simp)
  replace n := n.mv m1 (by simp)
  refine new_C g1 y fun p2 g2 m2 b2 => ?_
  replace m := m.step m2 (by simp)
  replace n := n.mv m2 (by simp)
  replace b1 := b1.mv m2 (by simp)
  rw [zTag]
  refine new_C g2 y fun p3 g3 m3 b3 => ?_
  replace m := m.step m3 (by simp)
  replace n := n.mv m3 (by simp)
  replace b1 := b1.mv m3 (by simp)
  replace b2 := b2.mv m3 (by simp)
  rw [fldK_some, Nat.zero_add, loadK_C b1]
  refine ⟨some r, rfl, ?_⟩
  refine loadAgg_whole b2 (by rw [szThing]; rfl) ?_
  refine numLookup_C (e := T.int) keyThing n ok (by kernel_rfl) (fun w => by kernel_rfl) ?_
  have hre : ∀ k ∈ [c, y], k ∈ [c] ∨ Fresh g k := by
    intro k hk
    simp only [List.mem_cons, List.mem_nil_iff, or_false] at hk
    rcases hk with rfl | rfl
    · exact .inl (by simp)
    · exact .inr hy
  have fin : ∀ (q : GH), Mv [c, y] g q → ∀ k : Nat, BlkC q y p3 (Array.replicate 32 (.int .u8 0)) T.api_Tag → NumC ShThing q c r (askT asked x).2 → (askT asked x).1 = k →
      callK Try.prog .agg F.tags_number #[(.int .i64 (k : Int))] (fun (v_16 : Array Value) (h : Heap) =>
      storeAggK (sizeOfT Try.prog T.api_Tag) h (some ⟨p3, 0, none⟩) v_16 (fun (h : Heap) =>
      quietK Try.prog .agg (Instr.loadAt T.api_Tag (.pointer (some ⟨p3, 0, none⟩))) (fun (r_17 : Array Value) =>
      R (.agg r_17) h) h)) q.h := by
    intro q m k b n hk
    refine number_spec q k fun q1 m1 => ⟨_, rfl, ?_⟩
    replace m := m.step m1 (by simp)
    replace n := n.mv m1 (by simp)
    replace b := b.mv m1 (by simp)
    refine result_C (n := 32) szTag dTag b (by simp) (by simp [numT_length]) (fun v hv => oneBy _ v hv) fun q2 m2 => ?_
    replace m := m.step m2 (by simp)
    replace n := n.mv m2 (by simp [Ne.symm hyc])
    have := H (g.via q2 id) (m.re id hre) (n.re (φ := id) m (.inl rfl))
    rw [hk] at this
    exact this
  cases hq : idxIn x asked with
  | some k =>
    have e : askT asked x = (k, asked) := by unfold askT; rw [hq]
    dsimp only
    rw [if_neg (by simp)]
    exact fin g3 m k b3 (by rw [e]; exact n) (by rw [e])
  | none =>
    have e : askT asked x = (asked.length, asked ++ [x]) := by unfold askT; rw [hq]
    dsimp only
    rw [if_pos (by simp), fldK_some, Nat.zero_add, loadK_C b1]
    refine ⟨some r, rfl, ?_⟩
    refine numLen_C (kt := T.tags_thing) (e := T.int) (by kernel_rfl) n ?_
    rw [fldK_some, Nat.zero_add, loadK_C b1]
    refine ⟨some r, rfl, ?_⟩
    refine loadAgg_whole b2 (by rw [szThing]; rfl) ?_
    refine numNew_C (e := T.int) keyThing n ok (by kernel_rfl) hq fun g4 m4 n4 => ?_
    exact fin g4 (m.step m4 (by simp)) _ (b3.mv m4 (by simp [hyc])) (by rw [e]; exact n4) (by rw [e])

/-! ### Makers -/

/-- A maker: whether it is real, its seed, what it was asked. -/
def MakC (g : GH) (c k p : Nat) (real : Bool) (seed : List Int) (asked : List ShThing.T) : Prop :=
  ∃ (r : Nat) (s : Sl), BlkC g c p #[.map (some r), .bool real, .slice s.a s.n s.c] T.tags_Maker ∧ NumC ShThing g k r asked ∧ RdC 1 g c s (seed.map byV) ∧ s.n ≤ s.c ∧ (∀ x ∈ seed, isByte x) ∧ seed.length ≤ 1000000
theorem MakC.mv {K : List Nat} {g g' : GH} {c k p : Nat} {real : Bool} {seed : List Int} {asked : List ShThing.T} (x : MakC g c k p real seed asked) (m : Mv K g g') (hk : c ∉ K) (hk2 : k ∉ K) : MakC g' c k p real seed asked := by
  obtain ⟨r, s, b, n, d, h⟩ := x
  exact ⟨r, s, b.mv m hk, n.mv m hk2, d.mv m hk, h⟩
theorem MakC.base {g : GH} {c k p : Nat} {real : Bool} {seed : List Int} {asked : List ShThing.T} (x : MakC g c k p real seed asked) : MakC g.base 0 0 p real seed asked := by
  obtain ⟨r, s, b, n, d, h⟩ := x
  exact ⟨r, s, b.base, n.base, d.base, h⟩
theorem MakC.via {K : List Nat} {g q : GH} {c k p : Nat} {real : Bool} {seed : List Int} {asked : List ShThing.T} (x : MakC q c k p real seed asked) (m : Mv K g.base q) (hc : c ≠ 0) (hk : k ≠ 0) (φ : Nat → Nat) : MakC (g.via q φ) (φ c) (φ k) p real seed asked := by
  obtain ⟨r, s, b, n, d, h⟩ := x
  exact ⟨r, s, b.via m hc φ, n.via m hk φ, d.via m hc φ, h⟩
theorem MakC.re {K : List Nat} {g q : GH} {c k p : Nat} {real : Bool} {seed : List Int} {asked : List ShThing.T} (x : MakC q c k p real seed asked) (m : Mv K g q) {φ : Nat → Nat} (hc : φ c = c ∨ Fresh g c) (h : φ k = k ∨ Fresh g k) : MakC (g.via q φ) (φ c) (φ k) p real seed asked := by
  obtain ⟨r, s, b, n, d, h'⟩ := x
  exact ⟨r, s, b.re m hc, n.re m h, d.re m hc, h'⟩

theorem there_spec {g : GH} {c k p : Nat} {real : Bool} {seed : List Int} {asked : List ShThing.T} (x : MakC g c k p real seed asked) {R : Value → Heap → Prop} (H : R (.bool true) g.h) : HC Try.prog F.tags_Maker_there #[.pointer (some ⟨p, 0, none⟩)] R g.h := by
  obtain ⟨r, s, b, n, d, h'⟩ := x
  refine tags_Maker_there.calls ?_
  unfold tags_Maker_there.body
  rw [if_pos (by rfl), derefK_some, fldK_some, fldK_some, loadK_C b]
  exact ⟨some r, rfl, H⟩
theorem makNew_spec (g : GH) (c k : Nat) {d : Nat} (real : Bool) (v : Sl) (seed : List Int) (hr : RdC 1 g d v (seed.map byV)) (hl : seed.length ≤ 1000000) (hb : ∀ x ∈ seed, isByte x) {R : Value → Heap → Prop}
    (H : ∀ (p : Nat) (g' : GH), Mv [] g g' → MakC g' c k p real seed [] → R (.pointer (some ⟨p, 0, none⟩)) g'.h) : HC Try.prog F.tags_New #[.bool real, .slice v.a v.n v.c] R g.h := by
  refine tags_New.calls (seed1 := v) ?_
  unfold tags_New.body
  have m : Mv [] g g := Mv.refl _ _
  refine makeMap_C g k fun r g1 m1 mc => ?_
  replace m := m.step m1 (by simp)
  refine ⟨#[.map (some r)], fun w => by kernel_rfl, ?_⟩
  refine CloneBytes_spec g1 c v seed (hr.mv m1 (by simp)).rd (by omega) fun s g2 m2 o2 => ⟨_, rfl, ?_⟩
  replace m := m.step m2 (by simp)
  refine ⟨#[.map (some r), .bool real, .slice s.a s.n s.c], fun w => by kernel_rfl, ?_⟩
  refine new_C g2 c fun p g3 m3 b3 => ?_
  replace m := m.step m3 (by simp)
  exact H p g3 m ⟨r, s, b3, ⟨(mc.mv m2 (by simp)).mv m3 (by simp), by simp⟩, o2.rd.mv m3 (by simp), o2.cap, hb, hl⟩


/-! ### A real maker -/

theorem sumReal_spec {g : GH} {c k p d : Nat} {seed : List Int} {asked : List ShThing.T} (x : MakC g c k p true seed asked) (rows : Sl) (xss : List (List Int)) (hr : RowsC g d rows xss) (hby : ∀ xs ∈ xss, ∀ x ∈ xs, isByte x) (ht : total xss ≤ 80000000) (hl : xss.length ≤ 1000000000000)
    {R : Value → Heap → Prop} (H : ∀ g' : GH, Mv [] g g' → R (.agg (tagA (shaB xss.flatten))) g'.h) : HC Try.prog F.tags_Maker_Sum #[.pointer (some ⟨p, 0, none⟩), .slice rows.a rows.n rows.c] R g.h := by
  refine tags_Maker_Sum.calls (rows1 := rows) ?_
  unfold tags_Maker_Sum.body
  have m := Mv.refl [1] g.base
  have x0 := x.base
  rw [zTag]
  refine new_C g.base 1 fun t q1 m1 b1 => ?_
  replace m := m.step m1 (by simp)
  replace x0 := x0.mv m1 (by simp) (by simp)
  refine there_spec x0 ⟨true, rfl, ?_⟩
  obtain ⟨r, s, b, n, dd, h'⟩ := x0
  rw [if_neg (by simp), derefK_some, fldK_some, loadK_C b]
  refine ⟨true, rfl, ?_⟩
  rw [if_pos rfl]
  refine digestOf_spec q1 rows xss (hr.arg m (by simp)) hby ht hl fun q2 m2 => ⟨_, rfl, ?_⟩
  replace m := m.step m2 (by simp)
  replace b1 := b1.mv m2 (by simp)
  refine result_C (n := 32) szTag dTag b1 (by simp) (by simp [shaB_length]) (fun v hv => oneBy _ v hv) fun q5 m5 => ?_
  exact H (g.via q5 fun _ => 0) ((m.step m5 (by simp)).via (by simp) _)

theorem strOf_from (xs : List Int) : ∀ r : ByteArray, (xs.foldl (fun r n => r.push (UInt8.ofNat n.toNat)) r).size = r.size + xs.length := by
  induction xs with
  | nil => intro r; simp
  | cons x xs ih => intro r; rw [List.foldl_cons, ih, ByteArray.size_push, List.length_cons]; omega
theorem strOf_size (xs : List Int) : (strOf xs).size = xs.length := by
  unfold strOf
  rw [strOf_from]
  simp

/-- Bytes' sum, their tag under a key, a draw: as things. -/
def thS (b : List Int) : ShThing.T := (115, ByteArray.empty, strOf b, 0, ())
def thM (k b : List Int) : ShThing.T := (109, strOf k, strOf b, 0, ())
def thD (n : Int) : ShThing.T := (100, ByteArray.empty, ByteArray.empty, n, ())
theorem okS {b : List Int} (h : b.length ≤ 100000000) : ShThing.ok (thS b) := by
  refine ⟨(show IntKind.u8.min ≤ (115 : Int) ∧ (115 : Int) ≤ IntKind.u8.max by decide), (show ByteArray.empty.size ≤ 140737488351232 from Nat.zero_le _), ?_, (show (0 : Int) ≥ IntKind.i64.min ∧ (0 : Int) ≤ IntKind.i64.max by decide), trivial⟩
  show (strOf b).size ≤ _
  rw [strOf_size]; omega
theorem okM {k b : List Int} (hk : k.length ≤ 100000000) (h : b.length ≤ 100000000) : ShThing.ok (thM k b) := by
  refine ⟨(show IntKind.u8.min ≤ (109 : Int) ∧ (109 : Int) ≤ IntKind.u8.max by decide), ?_, ?_, (show (0 : Int) ≥ IntKind.i64.min ∧ (0 : Int) ≤ IntKind.i64.max by decide), trivial⟩
  · show (strOf k).size ≤ _
    rw [strOf_size]; omega
  · show (strOf b).size ≤ _
    rw [strOf_size]; omega
theorem okD {n : Int} (h : -9223372036854775808 ≤ n ∧ n ≤ 9223372036854775807) : ShThing.ok (thD n) := ⟨(show IntKind.u8.min ≤ (100 : Int) ∧ (100 : Int) ≤ IntKind.u8.max by decide), (show ByteArray.empty.size ≤ 140737488351232 from Nat.zero_le _), (show ByteArray.empty.size ≤ 140737488351232 from Nat.zero_le _), h, trivial⟩

theorem askTail {g q : GH} {c k y p t r : Nat} {s : Sl} {seed : List Int} {asked : List ShThing.T} (hy : Fresh g y) (hyc : ¬ y = c) (hyk : ¬ y = k) (hck : ¬ c = k) (m : Mv [k, y] g q)
    (bm : BlkC q c p #[.map (some r), .bool false, .slice s.a s.n s.c] T.tags_Maker) (n : NumC ShThing q k r asked) (rs : RdC 1 q c s (seed.map byV)) (h' : s.n ≤ s.c ∧ (∀ x ∈ seed, isByte x) ∧ seed.length ≤ 1000000)
    (bt : BlkC q y t (Array.replicate 32 (.int .u8 0)) T.api_Tag) {x : ShThing.T} (ok : ShThing.ok x) {R : Value → Heap → Prop}
    (H : ∀ g' : GH, Mv [k] g g' → MakC g' c k p false seed (askT asked x).2 → R (.agg (tagA (numT (askT asked x).1))) g'.h) :
    callK Try.prog .agg F.tags_book_ask #[(.agg #[.map (some r)]), (.agg ⟨ShThing.enc x⟩)] (fun (v_16 : Array Value) (h : Heap) =>
    storeAggK (sizeOfT Try.prog T.api_Tag) h (some ⟨t, 0, none⟩) v_16 (fun (h : Heap) =>
    quietK Try.prog .agg (Instr.loadAt T.api_Tag (.pointer (some ⟨t, 0, none⟩))) (fun (r_17 : Array Value) =>
    R (.agg r_17) h) h)) q.h := by
  refine ask_spec n ok fun q1 m1 n1 => ⟨_, rfl, ?_⟩
  replace m := m.step m1 (by simp)
  replace bm := bm.mv m1 (by simp [hck])
  replace rs := rs.mv m1 (by simp [hck])
  replace bt := bt.mv m1 (by simp [hyk])
  refine result_C (n := 32) szTag dTag bt (by simp) (by simp [numT_length]) (fun v hv => oneBy _ v hv) fun q2 m2 => ?_
  replace m := m.step m2 (by simp)
  have hre : ∀ j ∈ [k, y], j ∈ [k] ∨ Fresh g j := by
    intro j hj
    simp only [List.mem_cons, List.mem_nil_iff, or_false] at hj
    rcases hj with rfl | rfl
    · exact .inl (by simp)
    · exact .inr hy
  have mk : MakC q2 c k p false seed (askT asked x).2 := ⟨r, s, bm.mv m2 (by simp [Ne.symm hyc]), n1.mv m2 (by simp [Ne.symm hyk]), rs.mv m2 (by simp [Ne.symm hyc]), h'⟩
  exact H (g.via q2 id) (m.re id hre) (mk.re (φ := id) m (.inl rfl) (.inl rfl))

theorem bookAt {g : GH} {c p r : Nat} {v w : Value} (b : BlkC g c p #[.map (some r), v, w] T.tags_Maker) {K : Array Value → Prop} (H : K #[.map (some r)]) : loadAggK (sizeOfT Try.prog T.tags_book) g.h (some ⟨p, 0 + 0, none⟩) K := by
  rw [loadAggK_C b]
  refine ⟨by rw [szBook]; simp, ?_⟩
  rw [szBook]
  exact H

theorem sumTab_spec {g : GH} {c k p d : Nat} (hck : ¬ c = k) {seed : List Int} {asked : List ShThing.T} (x : MakC g c k p false seed asked) (rows : Sl) (xss : List (List Int)) (hr : RowsC g d rows xss) (ht : total xss ≤ 80000000) (hl : xss.length ≤ 1000000000)
    {R : Value → Heap → Prop} (H : ∀ g' : GH, Mv [k] g g' → MakC g' c k p false seed (askT asked (thS xss.flatten)).2 → R (.agg (tagA (numT (askT asked (thS xss.flatten)).1))) g'.h) :
    HC Try.prog F.tags_Maker_Sum #[.pointer (some ⟨p, 0, none⟩), .slice rows.a rows.n rows.c] R g.h := by
  refine tags_Maker_Sum.calls (rows1 := rows) ?_
  unfold tags_Maker_Sum.body
  obtain ⟨y, hy, hyn⟩ := fresh_exists g [c, k, d]
  simp only [List.mem_cons, List.mem_nil_iff, or_false, not_or] at hyn
  have m := Mv.refl [k, y] g
  rw [zTag]
  refine new_C g y fun t q1 m1 b1 => ?_
  replace m := m.step m1 (by simp)
  replace x := x.mv m1 (by simp) (by simp)
  refine there_spec x ⟨true, rfl, ?_⟩
  obtain ⟨r, s, b, n, rs, h'⟩ := x
  rw [if_neg (by simp), derefK_some, fldK_some, loadK_C b]
  refine ⟨false, rfl, ?_⟩
  rw [if_neg (by simp), derefK_some, fldK_some]
  refine bookAt b ?_
  refine concat_spec q1 y rows xss (hr.mv m1 (by simp)) (by omega) hl fun s2 q2 m2 o2 => ⟨_, rfl, ?_⟩
  replace m := m.step m2 (by simp)
  refine ⟨bookAt (b.mv m2 (by simp)) rfl, ?_⟩
  refine toStr_C (e := T.uint8) (by kernel_rfl) (by kernel_rfl) (by kernel_rfl) o2.rd ?_
  refine ⟨⟨ShThing.enc (thS xss.flatten)⟩, fun w => by kernel_rfl, ?_⟩
  exact askTail hy hyn.1 hyn.2.1 hck m (b.mv m2 (by simp)) (n.mv m2 (by simp)) (rs.mv m2 (by simp)) h' (b1.mv m2 (by simp)) (okS (by have : xss.flatten.length = total xss := rfl; omega)) H

theorem macTab_spec {g : GH} {c k p d e : Nat} (hck : ¬ c = k) {seed : List Int} {asked : List ShThing.T} (x : MakC g c k p false seed asked) (v rows : Sl) (ks : List Int) (xss : List (List Int)) (hk : RdC 1 g e v (ks.map byV)) (hkl : ks.length ≤ 70000000) (hr : RowsC g d rows xss) (ht : total xss ≤ 80000000) (hl : xss.length ≤ 1000000000)
    {R : Value → Heap → Prop} (H : ∀ g' : GH, Mv [k] g g' → MakC g' c k p false seed (askT asked (thM ks xss.flatten)).2 → R (.agg (tagA (numT (askT asked (thM ks xss.flatten)).1))) g'.h) :
    HC Try.prog F.tags_Maker_Mac #[.pointer (some ⟨p, 0, none⟩), .slice v.a v.n v.c, .slice rows.a rows.n rows.c] R g.h := by
  refine tags_Maker_Mac.calls (key1 := v) (rows2 := rows) ?_
  unfold tags_Maker_Mac.body
  obtain ⟨y, hy, hyn⟩ := fresh_exists g [c, k, d, e]
  simp only [List.mem_cons, List.mem_nil_iff, or_false, not_or] at hyn
  have m := Mv.refl [k, y] g
  rw [zTag]
  refine new_C g y fun t q1 m1 b1 => ?_
  replace m := m.step m1 (by simp)
  replace x := x.mv m1 (by simp) (by simp)
  refine there_spec x ⟨true, rfl, ?_⟩
  obtain ⟨r, s, b, n, rs, h'⟩ := x
  rw [if_neg (by simp), derefK_some, fldK_some, loadK_C b]
  refine ⟨false, rfl, ?_⟩
  rw [if_neg (by simp), derefK_some, fldK_some]
  refine bookAt b ?_
  have hfl : xss.flatten.length = total xss := rfl
  have fin : ∀ q2 : GH, Mv [] q1 q2 → (∀ w : World, (Instr.build T.tags_thing #[(0, (.int .u8 109)), (1, (.string (strOf ks))), (2, (.string (strOf xss.flatten)))]).run Try.prog w = .ok (.agg ⟨ShThing.enc (thM ks xss.flatten)⟩) w) ∧
      callK Try.prog .agg F.tags_book_ask #[(.agg #[.map (some r)]), (.agg ⟨ShThing.enc (thM ks xss.flatten)⟩)] (fun (v_16 : Array Value) (h : Heap) =>
      storeAggK (sizeOfT Try.prog T.api_Tag) h (some ⟨t, 0, none⟩) v_16 (fun (h : Heap) =>
      quietK Try.prog .agg (Instr.loadAt T.api_Tag (.pointer (some ⟨t, 0, none⟩))) (fun (r_17 : Array Value) =>
      R (.agg r_17) h) h)) q2.h := fun q2 m2 => ⟨fun w => by kernel_rfl,
    askTail hy hyn.1 hyn.2.1 hck (m.step m2 (by simp)) (b.mv m2 (by simp)) (n.mv m2 (by simp)) (rs.mv m2 (by simp)) h' (b1.mv m2 (by simp)) (okM (by omega) (by omega)) H⟩
  refine ⟨?_, ?_⟩
  · refine toStr_C (e := T.uint8) (by kernel_rfl) (by kernel_rfl) (by kernel_rfl) (hk.mv m1 (by simp)) ?_
    refine concat_spec q1 y rows xss (hr.mv m1 (by simp)) (by omega) hl fun s2 q2 m2 o2 => ⟨_, rfl, ?_⟩
    refine ⟨bookAt (b.mv m2 (by simp)) rfl, ?_⟩
    refine toStr_C (e := T.uint8) (by kernel_rfl) (by kernel_rfl) (by kernel_rfl) o2.rd ?_
    exact ⟨_, fin q2 m2⟩
  · refine concat_spec q1 y rows xss (hr.mv m1 (by simp)) (by omega) hl fun s2 q2 m2 o2 => ⟨_, rfl, ?_⟩
    refine ⟨bookAt (b.mv m2 (by simp)) rfl, ?_⟩
    refine ⟨?_, ?_⟩
    · refine toStr_C (e := T.uint8) (by kernel_rfl) (by kernel_rfl) (by kernel_rfl) ((hk.mv m1 (by simp)).mv m2 (by simp)) ?_
      refine toStr_C (e := T.uint8) (by kernel_rfl) (by kernel_rfl) (by kernel_rfl) o2.rd ?_
      exact ⟨_, fin q2 m2⟩
    · refine toStr_C (e := T.uint8) (by kernel_rfl) (by kernel_rfl) (by kernel_rfl) o2.rd ?_
      refine toStr_C (e := T.uint8) (by kernel_rfl) (by kernel_rfl) (by kernel_rfl) ((hk.mv m1 (by simp)).mv m2 (by simp)) ?_
      exact ⟨_, fin q2 m2⟩

theorem drawTab_spec {g : GH} {c k p : Nat} (hck : ¬ c = k) {seed : List Int} {asked : List ShThing.T} (x : MakC g c k p false seed asked) (j : Int) (hj : -9223372036854775808 ≤ j ∧ j ≤ 9223372036854775807)
    {R : Value → Heap → Prop} (H : ∀ g' : GH, Mv [k] g g' → MakC g' c k p false seed (askT asked (thD j)).2 → R (.agg (tagA (numT (askT asked (thD j)).1))) g'.h) :
    HC Try.prog F.tags_Maker_Draw #[.pointer (some ⟨p, 0, none⟩), .int .i64 j] R g.h := by
  refine tags_Maker_Draw.calls ?_
  unfold tags_Maker_Draw.body
  obtain ⟨y, hy, hyn⟩ := fresh_exists g [c, k]
  simp only [List.mem_cons, List.mem_nil_iff, or_false, not_or] at hyn
  have m := Mv.refl [k, y] g
  rw [zTag]
  refine new_C g y fun t q1 m1 b1 => ?_
  replace m := m.step m1 (by simp)
  replace x := x.mv m1 (by simp) (by simp)
  refine there_spec x ⟨true, rfl, ?_⟩
  obtain ⟨r, s, b, n, rs, h'⟩ := x
  rw [if_neg (by simp), derefK_some, fldK_some, loadK_C b]
  refine ⟨false, rfl, ?_⟩
  rw [if_neg (by simp), derefK_some, fldK_some]
  refine bookAt b ?_
  refine ⟨⟨ShThing.enc (thD j)⟩, fun w => by kernel_rfl, ?_⟩
  exact askTail hy hyn.1 hyn.2 hck m b n rs h' b1 (okD hj) H

/-! ### Told -/

/-! ### Copies -/

theorem makeIface_C {t kt e : TypeId} (hu : Try.prog.underlying t = some (.map kt e)) {v : Value} {K : Value → Heap → Prop} {h : Heap} (H : K (.iface t v) h) : opK Try.prog .any (Instr.makeInterface t v) K h := by
  intro w hw
  refine ⟨.iface t v, w, ?_, Same.refl w, by rw [hw]; exact H⟩
  unfold Instr.makeInterface
  simp only [Sem.run_bind, run_underlying hu, Result.andThen_ok, Sem.run_pure, Kd.inj]
theorem assertMap_C {t xT kt e : TypeId} (hu : Try.prog.underlying t = some (.map kt e)) {r : Option Nat} {K : Option Nat → Heap → Prop} {h : Heap} (H : K r h) : opK Try.prog .map (Instr.typeAssert (.iface t (.map r)) xT t false) K h := by
  intro w hw
  refine ⟨r, w, ?_, Same.refl w, by rw [hw]; exact H⟩
  unfold Instr.typeAssert
  simp only [Sem.run_bind, run_underlying hu, Result.andThen_ok, Sem.run_pure, Kd.inj, if_true, Bool.false_eq_true, if_false]

theorem cloneMap_spec {g : GH} {k r : Nat} {asked : List ShThing.T} (n : NumC ShThing g k r asked) (k' : Nat) {R : Value → Heap → Prop} (H : ∀ (r' : Nat) (g' : GH), Mv [] g g' → NumC ShThing g' k' r' asked → R (.map (some r')) g'.h) :
    HC Try.prog F.maps_Clone_map_tags_thing_int_tags_thing_int #[.map (some r)] R g.h := by
  refine maps_Clone_map_tags_thing_int_tags_thing_int.calls ?_
  unfold maps_Clone_map_tags_thing_int_tags_thing_int.body
  rw [if_neg (by simp)]
  refine makeIface_C (kt := T.tags_thing) (e := T.int) (by kernel_rfl) ?_
  refine numClone_C n (by kernel_rfl) k' fun r' g1 m1 n1 => ?_
  exact assertMap_C (kt := T.tags_thing) (e := T.int) (by kernel_rfl) (H r' g1 m1 n1)

theorem makCopy_spec {g : GH} {c k p : Nat} {real : Bool} {seed : List Int} {asked : List ShThing.T} (x : MakC g c k p real seed asked) (c' k' : Nat) {R : Value → Heap → Prop}
    (H : ∀ (p' : Nat) (g' : GH), Mv [] g g' → MakC g' c' k' p' real seed asked → R (.pointer (some ⟨p', 0, none⟩)) g'.h) : HC Try.prog F.tags_Maker_Copy #[.pointer (some ⟨p, 0, none⟩)] R g.h := by
  refine tags_Maker_Copy.calls ?_
  unfold tags_Maker_Copy.body
  refine there_spec x ⟨true, rfl, ?_⟩
  obtain ⟨r, s, b, n, rs, h'⟩ := x
  rw [if_neg (by simp)]
  simp only [derefK_some, fldK_some]
  rw [loadK_C b]
  refine ⟨some r, rfl, ?_⟩
  rw [loadK_C b]
  refine ⟨real, rfl, ?_⟩
  rw [loadK_C b]
  refine ⟨s, rfl, ?_⟩
  have m : Mv [] g g := Mv.refl _ _
  refine cloneMap_spec n k' fun r' g1 m1 n1 => ⟨_, rfl, ?_⟩
  replace m := m.step m1 (by simp)
  replace b := b.mv m1 (by simp)
  refine ⟨stillK_C b rfl, stillK_C b rfl, ?_⟩
  refine ⟨#[.map (some r')], fun w => by kernel_rfl, ?_⟩
  refine CloneBytes_spec g1 c' s seed (rs.mv m1 (by simp)).rd (by omega) fun s2 g2 m2 o2 => ⟨_, rfl, ?_⟩
  replace m := m.step m2 (by simp)
  replace b := b.mv m2 (by simp)
  refine ⟨stillK_C b rfl, ?_⟩
  refine ⟨#[.map (some r'), .bool real, .slice s2.a s2.n s2.c], fun w => by kernel_rfl, ?_⟩
  refine new_C g2 c' fun p3 g3 m3 b3 => ?_
  replace m := m.step m3 (by simp)
  exact H p3 g3 m ⟨r', s2, b3, (n1.mv m2 (by simp)).mv m3 (by simp), o2.rd.mv m3 (by simp), o2.cap, h'.2⟩

end Go.Proofs.Ytijipdaofojbiaa
