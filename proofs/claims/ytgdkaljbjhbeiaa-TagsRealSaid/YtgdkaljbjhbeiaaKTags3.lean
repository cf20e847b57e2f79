/-
  Makers of tags: tables; copies.
-/
import Derived.Test.YtgdkaljbjhbeiaaKTags2
set_option linter.unusedSimpArgs false
set_option linter.unusedVariables false
namespace Go.Proofs.Ytgdkaljbjhbeiaa
open Go Go.Ev

theorem strOf_from (xs : List Int) : ∀ r : ByteArray, (xs.foldl (fun r n => r.push (UInt8.ofNat n.toNat)) r).size = r.size + xs.length := by
  induction xs with
  | nil => intro r; simp
  | cons x xs ih => intro r; rw [List.foldl_cons, ih, ByteArray.size_push, List.length_cons]; omega
theorem strOf_size (xs : List Int) : (strOf xs).size = xs.length := by
  unfold strOf
  rw [strOf_from]
  simp

/-- Bytes' sum, their tag under a key, a draw: as things. -/
def thS (b : List Int) : ShThing.T := (115, ByteArray.empty, strOf b, 0, ())
def thM (k b : List Int) : ShThing.T := (109, strOf k, strOf b, 0, ())
def thD (n : Int) : ShThing.T := (100, ByteArray.empty, ByteArray.empty, n, ())
theorem okS {b : List Int} (h : b.length ≤ 100000000) : ShThing.ok (thS b) := by
  refine ⟨(show IntKind.u8.min ≤ (115 : Int) ∧ (115 : Int) ≤ IntKind.u8.max by decide), (show ByteArray.empty.size ≤ 140737488351232 from Nat.zero_le _), ?_, (show (0 : Int) ≥ IntKind.i64.min ∧ (0 : Int) ≤ IntKind.i64.max by decide), trivial⟩
  show (strOf b).size ≤ _
  rw [strOf_size]; omega
theorem okM {k b : List Int} (hk : k.length ≤ 100000000) (h : b.length ≤ 100000000) : ShThing.ok (thM k b) := by
  refine ⟨(show IntKind.u8.min ≤ (109 : Int) ∧ (109 : Int) ≤ IntKind.u8.max by decide), ?_, ?_, (show (0 : Int) ≥ IntKind.i64.min ∧ (0 : Int) ≤ IntKind.i64.max by decide), trivial⟩
  · show (strOf k).size ≤ _
    rw [strOf_size]; omega
  · show (strOf b).size ≤ _
    rw [strOf_size]; omega
theorem okD {n : Int} (h : -9223372036854775808 ≤ n ∧ n ≤ 9223372036854775807) : ShThing.ok (thD n) := ⟨(show IntKind.u8.min ≤ (100 : Int) ∧ (100 : Int) ≤ IntKind.u8.max by decide), (show ByteArray.empty.size ≤ 140737488351232 from Nat.zero_le _), (show ByteArray.empty.size ≤ 140737488351232 from Nat.zero_le _), h, trivial⟩

theorem askTail {g q : GH} {c k y p t r : Nat} {s : Sl} {seed : List Int} {asked : List ShThing.T} (hy : Fresh g y) (hyc : ¬ y = c) (hyk : ¬ y = k) (hck : ¬ c = k) (m : Mv [k, y] g q)
    (bm : BlkC q c p #[.map (some r), .bool false, .slice s.a s.n s.c] T.tags_Maker) (n : NumC ShThing q k r asked) (rs : RdC 1 q c s (seed.map byV)) (h' : s.n ≤ s.c ∧ (∀ x ∈ seed, isByte x) ∧ seed.length ≤ 1000000)
    (bt : BlkC q y t (Array.replicate 32 (.int .u8 0)) T.api_Tag) {x : ShThing.T} (ok : ShThing.ok x) {R : Value → Heap → Prop}
    (H : ∀ g' : GH, Mv [k] g g' → MakC g' c k p false seed (askT asked x).2 → R (.agg (tagA (numT (askT asked x).1))) g'.h) :
    callK Try.prog .agg F.tags_book_ask #[(.agg #[.map (some r)]), (.agg ⟨ShThing.enc x⟩)] (fun (v_16 : Array Value) (h : Heap) =>
    storeAggK (sizeOfT Try.prog T.api_Tag) h (some ⟨t, 0, none⟩) v_16 (fun (h : Heap) =>
    quietK Try.prog .agg (Instr.loadAt T.api_Tag (.pointer (some ⟨t, 0, none⟩))) (fun (r_17 : Array Value) =>
    R (.agg r_17) h) h)) q.h := by
  refine ask_spec n ok fun q1 m1 n1 => ⟨_, rfl, ?_⟩
  replace m := m.step m1 (by simp)
  replace bm := bm.mv m1 (by simp [hck])
  replace rs := rs.mv m1 (by simp [hck])
  replace bt := bt.mv m1 (by simp [hyk])
  refine result_C (n := 32) szTag dTag bt (by simp) (by simp [numT_length]) (fun v hv => oneBy _ v hv) fun q2 m2 => ?_
  replace m := m.step m2 (by simp)
  have hre : ∀ j ∈ [k, y], j ∈ [k] ∨ Fresh g j := by
    intro j hj
    simp only [List.mem_cons, List.mem_nil_iff, or_false] at hj
    rcases hj with rfl | rfl
    · exact .inl (by simp)
    · exact .inr hy
  have mk : MakC q2 c k p false seed (askT asked x).2 := ⟨r, s, bm.mv m2 (by simp [Ne.symm hyc]), n1.mv m2 (by simp [Ne.symm hyk]), rs.mv m2 (by simp [Ne.symm hyc]), h'⟩
  exact H (g.via q2 id) (m.re id hre) (mk.re (φ := id) m (.inl rfl) (.inl rfl))

theorem bookAt {g : GH} {c p r : Nat} {v w : Value} (b : BlkC g c p #[.map (some r), v, w] T.tags_Maker) {K : Array Value → Prop} (H : K #[.map (some r)]) : loadAggK (sizeOfT Try.prog T.tags_book) g.h (some ⟨p, 0 + 0, none⟩) K := by
  rw [loadAggK_C b]
  refine ⟨by rw [szBook]; simp, ?_⟩
  rw [szBook]
  exact H

theorem sumTab_spec {g : GH} {c k p d : Nat} (hck : ¬ c = k) {seed : List Int} {asked : List ShThing.T} (x : MakC g c k p false seed asked) (rows : Sl) (xss : List (List Int)) (hr : RowsC g d rows xss) (ht : total xss ≤ 80000000) (hl : xss.length ≤ 1000000000)
    {R : Value → Heap → Prop} (H : ∀ g' : GH, Mv [k] g g' → MakC g' c k p false seed (askT asked (thS xss.flatten)).2 → R (.agg (tagA (numT (askT asked (thS xss.flatten)).1))) g'.h) :
    HC Try.prog F.tags_Maker_Sum #[.pointer (some ⟨p, 0, none⟩), .slice rows.a rows.n rows.c] R g.h := by
  refine tags_Maker_Sum.calls (rows1 := rows) ?_
  unfold tags_Maker_Sum.body
  obtain ⟨y, hy, hyn⟩ := fresh_exists g [c, k, d]
  simp only [List.mem_cons, List.mem_nil_iff, or_false, not_or] at hyn
  have m := Mv.refl [k, y] g
  rw [zTag]
  refine new_C g y fun t q1 m1 b1 => ?_
  replace m := m.step m1 (by simp)
  replace x := x.mv m1 (by simp) (by simp)
  refine there_spec x ⟨true, rfl, ?_⟩
  obtain ⟨r, s, b, n, rs, h'⟩ := x
  rw [if_neg (by simp), derefK_some, fldK_some, loadK_C b]
  refine ⟨false, rfl, ?_⟩
  rw [if_neg (by simp), derefK_some, fldK_some]
  refine bookAt b ?_
  refine concat_spec q1 y rows xss (hr.mv m1 (by simp)) (by omega) hl fun s2 q2 m2 o2 => ⟨_, rfl, ?_⟩
  replace m := m.step m2 (by simp)
  refine ⟨bookAt (b.mv m2 (by simp)) rfl, ?_⟩
  refine toStr_C (e := T.uint8) (by kernel_rfl) (by kernel_rfl) (by kernel_rfl) o2.rd ?_
  refine ⟨⟨ShThing.enc (thS xss.flatten)⟩, fun w => by kernel_rfl, ?_⟩
  exact askTail hy hyn.1 hyn.2.1 hck m (b.mv m2 (by simp)) (n.mv m2 (by simp)) (rs.mv m2 (by simp)) h' (b1.mv m2 (by simp)) (okS (by have : xss.flatten.length = total xss := rfl; omega)) H

theorem macTab_spec {g : GH} {c k p d e : Nat} (hck : ¬ c = k) {seed : List Int} {asked : List ShThing.T} (x : MakC g c k p false seed asked) (v rows : Sl) (ks : List Int) (xss : List (List Int)) (hk : RdC 1 g e v (ks.map byV)) (hkl : ks.length ≤ 70000000) (hr : RowsC g d rows xss) (ht : total xss ≤ 80000000) (hl : xss.length ≤ 1000000000)
    {R : Value → Heap → Prop} (H : ∀ g' : GH, Mv [k] g g' → MakC g' c k p false seed (askT asked (thM ks xss.flatten)).2 → R (.agg (tagA (numT (askT asked (thM ks xss.flatten)).1))) g'.h) :
    HC Try.prog F.tags_Maker_Mac #[.pointer (some ⟨p, 0, none⟩), .slice v.a v.n v.c, .slice rows.a rows.n rows.c] R g.h := by
  refine tags_Maker_Mac.calls (key1 := v) (rows2 := rows) ?_
  unfold tags_Maker_Mac.body
  obtain ⟨y, hy, hyn⟩ := fresh_exists g [c, k, d, e]
  simp only [List.mem_cons, List.mem_nil_iff, or_false, not_or] at hyn
  have m := Mv.refl [k, y] g
  rw [zTag]
  refine new_C g y fun t q1 m1 b1 => ?_
  replace m := m.step m1 (by simp)
  replace x := x.mv m1 (by simp) (by simp)
  refine there_spec x ⟨true, rfl, ?_⟩
  obtain ⟨r, s, b, n, rs, h'⟩ := x
  rw [if_neg (by simp), derefK_some, fldK_some, loadK_C b]
  refine ⟨false, rfl, ?_⟩
  rw [if_neg (by simp), derefK_some, fldK_some]
  refine bookAt b ?_
  have hfl : xss.flatten.length = total xss := rfl
  have fin : ∀ q2 : GH, Mv [] q1 q2 → (∀ w : World, (Instr.build T.tags_thing #[(0, (.int .u8 109)), (1, (.string (strOf ks))), (2, (.string (strOf xss.flatten)))]).run Try.prog w = .ok (.agg ⟨ShThing.enc (thM ks xss.flatten)⟩) w) ∧
      callK Try.prog .agg F.tags_book_ask #[(.agg #[.map (some r)]), (.agg ⟨ShThing.enc (thM ks xss.flatten)⟩)] (fun (v_16 : Array Value) (h : Heap) =>
      storeAggK (sizeOfT Try.prog T.api_Tag) h (some ⟨t, 0, none⟩) v_16 (fun (h : Heap) =>
      quietK Try.prog .agg (Instr.loadAt T.api_Tag (.pointer (some ⟨t, 0, none⟩))) (fun (r_17 : Array Value) =>
      R (.agg r_17) h) h)) q2.h := fun q2 m2 => ⟨fun w => by kernel_rfl,
    askTail hy hyn.1 hyn.2.1 hck (m.step m2 (by simp)) (b.mv m2 (by simp)) (n.mv m2 (by simp)) (rs.mv m2 (by simp)) h' (b1.mv m2 (by simp)) (okM (by omega) (by omega)) H⟩
  refine ⟨?_, ?_⟩
  · refine toStr_C (e := T.uint8) (by kernel_rfl) (by kernel_rfl) (by kernel_rfl) (hk.mv m1 (by simp)) ?_
    refine concat_spec q1 y rows xss (hr.mv m1 (by simp)) (by omega) hl fun s2 q2 m2 o2 => ⟨_, rfl, ?_⟩
    refine ⟨bookAt (b.mv m2 (by simp)) rfl, ?_⟩
    refine toStr_C (e := T.uint8) (by kernel_rfl) (by kernel_rfl) (by kernel_rfl) o2.rd ?_
    exact ⟨_, fin q2 m2⟩
  · refine concat_spec q1 y rows xss (hr.mv m1 (by simp)) (by omega) hl fun s2 q2 m2 o2 => ⟨_, rfl, ?_⟩
    refine ⟨bookAt (b.mv m2 (by simp)) rfl, ?_⟩
    refine ⟨?_, ?_⟩
    · refine toStr_C (e := T.uint8) (by kernel_rfl) (by kernel_rfl) (by kernel_rfl) ((hk.mv m1 (by simp)).mv m2 (by simp)) ?_
      refine toStr_C (e := T.uint8) (by kernel_rfl) (by kernel_rfl) (by kernel_rfl) o2.rd ?_
      exact ⟨_, fin q2 m2⟩
    · refine toStr_C (e := T.uint8) (by kernel_rfl) (by kernel_rfl) (by kernel_rfl) o2.rd ?_
      refine toStr_C (e := T.uint8) (by kernel_rfl) (by kernel_rfl) (by kernel_rfl) ((hk.mv m1 (by simp)).mv m2 (by simp)) ?_
      exact ⟨_, fin q2 m2⟩

theorem drawTab_spec {g : GH} {c k p : Nat} (hck : ¬ c = k) {seed : List Int} {asked : List ShThing.T} (x : MakC g c k p false seed asked) (j : Int) (hj : -9223372036854775808 ≤ j ∧ j ≤ 9223372036854775807)
    {R : Value → Heap → Prop} (H : ∀ g' : GH, Mv [k] g g' → MakC g' c k p false seed (askT asked (thD j)).2 → R (.agg (tagA (numT (askT asked (thD j)).1))) g'.h) :
    HC Try.prog F.tags_Maker_Draw #[.pointer (some ⟨p, 0, none⟩), .int .i64 j] R g.h := by
  refine tags_Maker_Draw.calls ?_
  unfold tags_Maker_Draw.body
  obtain ⟨y, hy, hyn⟩ := fresh_exists g [c, k]
  simp only [List.mem_cons, List.mem_nil_iff, or_false, not_or] at hyn
  have m := Mv.refl [k, y] g
  rw [zTag]
  refine new_C g y fun t q1 m1 b1 => ?_
  replace m := m.step m1 (by simp)
  replace x := x.mv m1 (by simp) (by simp)
  refine there_spec x ⟨true, rfl, ?_⟩
  obtain ⟨r, s, b, n, rs, h'⟩ := x
  rw [if_neg (by simp), derefK_some, fldK_some, loadK_C b]
  refine ⟨false, rfl, ?_⟩
  rw [if_neg (by simp), derefK_some, fldK_some]
  refine bookAt b ?_
  refine ⟨⟨ShThing.enc (thD j)⟩, fun w => by kernel_rfl, ?_⟩
  exact askTail hy hyn.1 hyn.2 hck m b n rs h' b1 (okD hj) H

/-! ### Told -/

def toldStep (n c : Int) : Int := IntKind.i64.wrap (BitVec.ofInt (IntKind.bits .i64) (IntKind.i64.wrap (n * 2 ^ min (Int.toNat 8) (IntKind.bits .i64))) ||| BitVec.ofInt (IntKind.bits .i64) (IntKind.i64.wrap c)).toNat
/-- The number that a tag is of, if it is one's. -/
def toldN (t : List Int) : Int := ((t.drop 8).take 8).foldl toldStep 0
def toldT (asked : List ShThing.T) (t : List Int) : Bool := decide (toldN t ≥ 0) && decide (toldN t < (asked.length : Int)) && decide (numT (toldN t) = t)

theorem bookTold_spec {g : GH} {k r : Nat} {asked : List ShThing.T} (n : NumC ShThing g k r asked) (t : List Int) (ht : t.length = 32) (hb : ∀ x ∈ t, isByte x) {R : Value → Heap → Prop} (H : ∀ g' : GH, Mv [] g g' → R (.bool (toldT asked t)) g'.h) :
    HC Try.prog F.tags_book_told #[.agg #[.map (some r)], .agg (tagA t)] R g.h := by
  refine tags_book_told.calls ?_
  unfold tags_book_told.body
  have m := Mv.refl [1] g.base
  have n0 := n.base
  refine new_C g.base 1 fun p1 q1 m1 b1 => ?_
  replace m := m.step m1 (by simp)
  refine new_C q1 1 fun p2 q2 m2 b2 => ?_
  replace m := m.step m2 (by simp)
  replace b1 := b1.mv m2 (by simp)
  refine sliceArr_C 8 16 ⟨rfl, by decide⟩ ⟨rfl, by decide⟩ (by decide) ?_
  have row : RdC 1 q2 1 ⟨some ⟨p2, 0 + 8 * sizeOfT Try.prog T.uint8, none⟩, 16 - 8, 32 - 8⟩ (((t.drop 8).take 8).map byV) := by
    rw [zU8]
    refine ⟨⟨by simp [ht], .inr ⟨p2, 8, _, _, _, rfl, b2.blk, fun i hi => ?_⟩⟩, .inr ⟨p2, rfl, lt_of_get b2.blk, b2.col⟩⟩
    simp only [List.length_map, List.length_take, List.length_drop, ht] at hi
    simp only [List.getElem?_toArray, List.getElem?_map, List.getElem?_take, List.getElem?_drop]
    rw [if_pos (by omega)]
  have hl8 : ((t.drop 8).take 8).length = 8 := by simp [ht]
  have htn : toldN t = ((t.drop 8).take 8).foldl toldStep 0 := rfl
  generalize (t.drop 8).take 8 = bs at row hl8 htn
  refine loopW_rule (fun st h' => ∃ i : Nat, i ≤ 8 ∧ st = ((bs.take i).foldl toldStep 0, (i : Int)) ∧ h' = q2.h) (fun st => 8 - st.2.toNat) ⟨0, by omega, rfl, rfl⟩ ?_
  rintro X _ _ ⟨i, hi, rfl, rfl⟩ hX
  dsimp only
  by_cases hlt : i < 8
  · rw [if_pos (by simp; omega)]
    refine idxLoad_C row zU8 (by omega) bs[i] (by simp [Kd.inj, List.getElem?_eq_getElem, hl8, hlt]) ?_
    refine ⟨by decide, ?_⟩
    rw [wrapSucc (by omega)]
    refine hX _ _ ⟨i + 1, by omega, ?_, rfl⟩ (by simp; omega)
    rw [List.take_succ_eq_append_getElem (by omega), List.foldl_append]
    rfl
  · rw [if_neg (by simp; omega)]
    have hi' : i = 8 := by omega
    subst hi'
    have e : (bs.take 8).foldl toldStep 0 = toldN t := by
      rw [List.take_of_length_le (by omega)]; exact htn.symm
    rw [e]
    have fin : ∀ q : GH, Mv [1] g.base q → ∀ b : Bool, toldT asked t = b → R (.bool b) q.h := fun q m b hb => by
      rw [← hb]; exact H (g.via q fun _ => 0) (m.via (by simp) _)
    by_cases h0 : toldN t ≥ 0
    · rw [if_pos (by simpa using h0), fldK_some, Nat.zero_add, loadK_C b1]
      refine ⟨some r, rfl, ?_⟩
      refine numLen_C (kt := T.tags_thing) (e := T.int) (by kernel_rfl) (n0.mv m (by simp)) ?_
      by_cases h1 : toldN t < (asked.length : Int)
      · rw [if_pos (by simpa using h1)]
        refine loadAgg_whole b2 (tagA_size ht) ?_
        refine number_spec q2 (toldN t) fun q3 m3 => ⟨_, rfl, ?_⟩
        refine ⟨stillAgg_whole (b2.mv m3 (by simp)) (tagA_size ht), ?_⟩
        refine tag_eq (numT_length _) (numT_byte _) ht hb ?_
        exact fin q3 (m.step m3 (by simp)) _ (by simp [toldT, h0, h1])
      · rw [if_neg (by simpa using h1)]
        exact fin q2 m _ (by simp [toldT, h1])
    · rw [if_neg (by simpa using h0)]
      exact fin q2 m _ (by simp [toldT, h0])

theorem told_spec {g : GH} {c k p : Nat} {real : Bool} {seed : List Int} {asked : List ShThing.T} (x : MakC g c k p real seed asked) (t : List Int) (ht : t.length = 32) (hb : ∀ x ∈ t, isByte x) {R : Value → Heap → Prop} (H : ∀ g' : GH, Mv [] g g' → R (.bool (toldT asked t)) g'.h) :
    HC Try.prog F.tags_Maker_Told #[.pointer (some ⟨p, 0, none⟩), .agg (tagA t)] R g.h := by
  refine tags_Maker_Told.calls ?_
  unfold tags_Maker_Told.body
  have m := Mv.refl [1] g.base
  have x0 := x.base
  refine new_C g.base 1 fun p1 q1 m1 b1 => ?_
  replace m := m.step m1 (by simp)
  replace x0 := x0.mv m1 (by simp) (by simp)
  refine there_spec x0 ⟨true, rfl, ?_⟩
  obtain ⟨r, s, b, n, rs, h'⟩ := x0
  rw [if_pos rfl, derefK_some, fldK_some]
  refine bookAt b ?_
  refine loadAgg_whole b1 (tagA_size ht) ?_
  refine bookTold_spec n t ht hb fun q2 m2 => ⟨_, rfl, ?_⟩
  exact H (g.via q2 fun _ => 0) ((m.step m2 (by simp)).via (by simp) _)

/-! ### Copies -/

theorem makeIface_C {t kt e : TypeId} (hu : Try.prog.underlying t = some (.map kt e)) {v : Value} {K : Value → Heap → Prop} {h : Heap} (H : K (.iface t v) h) : opK Try.prog .any (Instr.makeInterface t v) K h := by
  intro w hw
  refine ⟨.iface t v, w, ?_, Same.refl w, by rw [hw]; exact H⟩
  unfold Instr.makeInterface
  simp only [Sem.run_bind, run_underlying hu, Result.andThen_ok, Sem.run_pure, Kd.inj]
theorem assertMap_C {t xT kt e : TypeId} (hu : Try.prog.underlying t = some (.map kt e)) {r : Option Nat} {K : Option Nat → Heap → Prop} {h : Heap} (H : K r h) : opK Try.prog .map (Instr.typeAssert (.iface t (.map r)) xT t false) K h := by
  intro w hw
  refine ⟨r, w, ?_, Same.refl w, by rw [hw]; exact H⟩
  unfold Instr.typeAssert
  simp only [Sem.run_bind, run_underlying hu, Result.andThen_ok, Sem.run_pure, Kd.inj, if_true, Bool.false_eq_true, if_false]

theorem cloneMap_spec {g : GH} {k r : Nat} {asked : List ShThing.T} (n : NumC ShThing g k r asked) (k' : Nat) {R : Value → Heap → Prop} (H : ∀ (r' : Nat) (g' : GH), Mv [] g g' → NumC ShThing g' k' r' asked → R (.map (some r')) g'.h) :
    HC Try.prog F.maps_Clone_map_tags_thing_int_tags_thing_int #[.map (some r)] R g.h := by
  refine maps_Clone_map_tags_thing_int_tags_thing_int.calls ?_
  unfold maps_Clone_map_tags_thing_int_tags_thing_int.body
  rw [if_neg (by simp)]
  refine makeIface_C (kt := T.tags_thing) (e := T.int) (by kernel_rfl) ?_
  refine numClone_C n (by kernel_rfl) k' fun r' g1 m1 n1 => ?_
  exact assertMap_C (kt := T.tags_thing) (e := T.int) (by kernel_rfl) (H r' g1 m1 n1)

theorem makCopy_spec {g : GH} {c k p : Nat} {real : Bool} {seed : List Int} {asked : List ShThing.T} (x : MakC g c k p real seed asked) (c' k' : Nat) {R : Value → Heap → Prop}
    (H : ∀ (p' : Nat) (g' : GH), Mv [] g g' → MakC g' c' k' p' real seed asked → R (.pointer (some ⟨p', 0, none⟩)) g'.h) : HC Try.prog F.tags_Maker_Copy #[.pointer (some ⟨p, 0, none⟩)] R g.h := by
  refine tags_Maker_Copy.calls ?_
  unfold tags_Maker_Copy.body
  refine there_spec x ⟨true, rfl, ?_⟩
  obtain ⟨r, s, b, n, rs, h'⟩ := x
  rw [if_neg (by simp)]
  simp only [derefK_some, fldK_some]
  rw [loadK_C b]
  refine ⟨some r, rfl, ?_⟩
  rw [loadK_C b]
  refine ⟨real, rfl, ?_⟩
  rw [loadK_C b]
  refine ⟨s, rfl, ?_⟩
  have m : Mv [] g g := Mv.refl _ _
  refine cloneMap_spec n k' fun r' g1 m1 n1 => ⟨_, rfl, ?_⟩
  replace m := m.step m1 (by simp)
  replace b := b.mv m1 (by simp)
  refine ⟨stillK_C b rfl, stillK_C b rfl, ?_⟩
  refine ⟨#[.map (some r')], fun w => by kernel_rfl, ?_⟩
  refine CloneBytes_spec g1 c' s seed (rs.mv m1 (by simp)).rd (by omega) fun s2 g2 m2 o2 => ⟨_, rfl, ?_⟩
  replace m := m.step m2 (by simp)
  replace b := b.mv m2 (by simp)
  refine ⟨stillK_C b rfl, ?_⟩
  refine ⟨#[.map (some r'), .bool real, .slice s2.a s2.n s2.c], fun w => by kernel_rfl, ?_⟩
  refine new_C g2 c' fun p3 g3 m3 b3 => ?_
  replace m := m.step m3 (by simp)
  exact H p3 g3 m ⟨r', s2, b3, (n1.mv m2 (by simp)).mv m3 (by simp), o2.rd.mv m3 (by simp), o2.cap, h'.2⟩

end Go.Proofs.Ytgdkaljbjhbeiaa
