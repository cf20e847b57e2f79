/-
  The example of layer 20.
-/
import Derived.Test.YtobdneijofchkaaGreatKLaw20
set_option linter.unusedSimpArgs false
set_option linter.unusedVariables false
namespace Go.Proofs.YtobdneijofchkaaGreat
open Go Go.Ev

def body4 : BodyT := (4, move0, false, 0, zero32, zero32, ())
def body3 : BodyT := (3, move0, false, 0, zero32, zero32, ())
def exE (b : BodyT) : EntryT := (zero32, 0, numT 0, b, ())
def thR : ShThing.T := thS (rootB ++ zero32)
def thL : ShThing.T := thS (linkB ++ entryBytes (exE body4))
theorem okB4 : ShBody.ok body4 := ⟨okI (by decide), okMove0, trivial, okI0, ok0, ok0, trivial⟩
theorem okB3 : ShBody.ok body3 := ⟨okI (by decide), okMove0, trivial, okI0, ok0, ok0, trivial⟩
theorem okX {b : BodyT} (h : ShBody.ok b) : ShEntry.ok (exE b) := ⟨ok0, okI0, okTag (numT_length _) (numT_byte _), h, trivial⟩
theorem ex1 : nextT false zero32 ([], [], []) body4 = (0, exE body4, [thR]) := by kernel_rfl
theorem ex2 : askT [thR] (thS ([rootB, zero32].flatten)) = (0, [thR]) := by kernel_rfl
theorem ex3 : addT false zero32 ([thR], [], []) [exE body4] = (0, [thR, thL], [exE body4], [numT 1]) := by kernel_rfl
theorem ex4 : addT false zero32 ([thR, thL], [exE body4], [numT 1]) [exE body4] = (12, [thR, thL], [exE body4], [numT 1]) := by kernel_rfl
theorem ex5 : addT false zero32 ([thR, thL], [exE body4], [numT 1]) [exE body3] = (15, [thR, thL], [exE body4], [numT 1]) := by kernel_rfl
theorem exSet : (⟨ShEntry.enc (exE body4)⟩ : Array Value).setIfInBounds 65 (.int .i64 3) = ⟨ShEntry.enc (exE body3)⟩ := by kernel_rfl

set_option maxHeartbeats 2000000 in
set_option maxRecDepth 20000 in
theorem awake20_spec (g : GH) {R : Value → Heap → Prop} (H : ∀ g' : GH, Mv [] g g' → R (.bool true) g'.h) : HC Tryz.prog F.law20_awake #[] R g.h := by
  refine law20_awake.calls ?_
  unfold law20_awake.body
  have D : Dis 1 2 3 4 5 := ⟨by decide, by decide, by decide, by decide, by decide, by decide, by decide, by decide, by decide, by decide⟩
  have m := Mv.refl [1, 2, 3, 4, 5, 6, 7, 8] g.base
  have fin : ∀ q : GH, Mv [1, 2, 3, 4, 5, 6, 7, 8] g.base q → R (.bool true) q.h := fun q m => H (g.via q fun _ => 0) (m.via (by simp) _)
  refine makNew_spec g.base 1 2 false ⟨none, 0, 0⟩ [] (RdC.nil _ _ 0 _ _) (by simp) (by simp) fun pm q1 m1 mk => ⟨_, rfl, ?_⟩
  replace m := m.step m1 (by simp)
  refine ⟨⟨ShTag.enc zero32⟩, fun w => by kernel_rfl, ?_⟩
  refine chainNew_spec 3 4 5 mk zero32 ok0 fun p q2 m2 ch => ⟨(_, _), rfl, ?_⟩
  replace m := m.step m2 (by simp)
  have x : CM q2 1 2 3 4 5 p pm false [] zero32 ([], [], []) := ⟨mk.mv m2 (by simp) (by simp), ch⟩
  try dsimp only
  rw [if_neg (by simp)]
  refine ⟨⟨ShBody.enc body4⟩, fun w => by kernel_rfl, ?_⟩
  refine chnNext_spec D x (by simp) body4 okB4 fun q3 m3 x3 _ => ⟨(_, _), rfl, ?_⟩
  replace m := m.step m3 (by simp)
  rw [ex1] at x3 ⊢
  rw [zEntry]
  refine newStore_C q3 6 (by rw [szEntry]; exact lenEntry (okX okB4)) (by rw [szEntry, List.size_toArray, lenEntry okEntry0]) (fun v hv => Sh.enc_one (s := ShEntry) rfl v hv) fun px q4 m4 bx => ?_
  replace m := m.step m4 (by simp)
  replace x3 := x3.mv m4 (by simp) (by simp) (by simp) (by simp) (by simp)
  refine joinW_intro (fun _ h' => ∃ q : GH, h' = q.h ∧ Mv [1, 2, 3, 4, 5, 6, 7, 8] g.base q ∧ CM q 1 2 3 4 5 p pm false [] zero32 ([thR, thL], [exE body4], [numT 1]) ∧ BlkC q 6 px ⟨ShEntry.enc (exE body4)⟩ T.api_Entry) ?_ ?_
  · intro J hJ
    try dsimp only
    rw [if_neg (by simp), fldK_some]
    have ex := okX okB4
    refine loadK_cells (entryAt ex (blkCells bx)).number (k := .int .i64) (j := 0) 0 rfl rfl ?_
    rw [if_neg (by simp), fldK_some]
    refine loadTagAt (entryAt ex (blkCells bx)).ahead ex.2.2.1 ?_
    have tail : ∀ (q : GH) (a b : Sl), Mv [7] q4 q → RdC 1 q 7 a (rootB.map byV) → a.n ≤ a.c → RdC 1 q 7 b (zero32.map byV) → b.n ≤ b.c →
        newSlK q.h 2 #[(.slice a.a a.n a.c), (.slice b.a b.n b.c)] T.sl_uint8 (fun (v_28 : Sl) (h : Heap) =>
        callK Tryz.prog .agg F.tags_Maker_Sum #[(.pointer (some ⟨pm, 0, none⟩)), (.slice v_28.a v_28.n v_28.c)] (fun (v_29 : Array Value) (h : Heap) =>
        stillAggK (sizeOfT Tryz.prog T.api_Tag) h (some ⟨px, 0 + 33, none⟩) ⟨ShTag.enc (numT 0)⟩ ∧
        eqK Tryz.prog (binSem .neq T.api_Tag (.tmp 31) (.tmp 37) (.agg ⟨ShTag.enc (numT 0)⟩) (.agg v_29)) (fun (v_30 : Bool) =>
        if v_30 = true then
        R (.bool false) h
        else
        loadAggK (sizeOfT Tryz.prog T.api_Entry) h (some ⟨px, 0, none⟩) (fun (v_31 : Array Value) =>
        opK Tryz.prog .slice (Instr.buildSlice T.sl_api_Entry 1 #[(0, (.agg v_31))]) (fun (v_32 : Sl) (h : Heap) =>
        callK Tryz.prog (.int .i64) F.chain_Chain_Add #[(.pointer (some ⟨p, 0, none⟩)), (.slice v_32.a v_32.n v_32.c)] (fun (v_33 : Int) (h : Heap) =>
        if (v_33 != 0) = true then
        R (.bool false) h
        else
        J () h) h) h))) h) := by
      intro q a b mq ra ha rb hb
      have m' := m.step mq (by simp)
      have xq := x3.mv mq (by simp) (by simp) (by simp) (by simp) (by simp)
      have bq := bx.mv mq (by simp)
      refine newSl_C q 7 rfl fun s5 q5 m5 o5 hn5 hc5 => ?_
      replace m' := m'.step m5 (by simp)
      replace xq := xq.mv m5 (by simp) (by simp) (by simp) (by simp) (by simp)
      replace bq := bq.mv m5 (by simp)
      have rr : RowsC q5 7 s5 [rootB, zero32] := RowsC.two (a := a) (b := b) o5.rd (ra.mv m5 (by simp)) ha (rb.mv m5 (by simp)) hb
      refine sumTab_spec D.ck xq.ma s5 _ rr (by simp [total, rootB]) (by simp) fun q6 m6 mk6 => ⟨_, rfl, ?_⟩
      replace m' := m'.step m6 (by simp)
      have ch6 := xq.ch.mv m6 (by simp) (by simp) (by simp)
      replace bq := bq.mv m6 (by simp)
      rw [ex2] at mk6 ⊢
      have x6 : CM q6 1 2 3 4 5 p pm false [] zero32 ([thR], [], []) := ⟨mk6, ch6⟩
      refine ⟨stillF (s := ShTag) (entryAt ex (blkCells bq)).ahead szTag (by decide) (lenTag ex.2.2.1), ?_⟩
      rw [tagA_enc]
      refine neTag_F ex.2.2.1 ex.2.2.1 ?_
      rw [if_neg (by simp)]
      refine loadEntryAt (blkCells bq) ex ?_
      refine mkEntry_C q6 8 ex fun s7 q7 m7 o7 hc7 => ?_
      replace m' := m'.step m7 (by simp)
      replace x6 := x6.mv m7 (by simp) (by simp) (by simp) (by simp) (by simp)
      replace bq := bq.mv m7 (by simp)
      refine add_spec D (d := 8) (by decide) (by decide) (by decide) (by decide) x6 s7 [exE body4] (o7.slc rfl (by simp)) (by simp) fun q8 m8 x8 => ⟨_, rfl, ?_⟩
      rw [ex3] at x8 ⊢
      try dsimp only
      rw [if_neg (by simp)]
      exact hJ _ _ ⟨q8, rfl, m'.step m8 (by simp), x8, bq.mv m8 (by simp)⟩
    have my : Mv [7] q4 q4 := Mv.refl _ _
    have zeros : (List.replicate 32 (.int .u8 0) : List Value) = zero32.map byV := by simp
    refine ⟨?_, ?_⟩
    · refine newSl_C q4 7 rfl fun s5 q5 m5 o5 hn5 hc5 => ?_
      replace my := my.step m5 (by simp)
      refine ⟨?_, ?_⟩
      · refine convRd (e := T.uint8) (by kernel_rfl) (by kernel_rfl) o5 (by simp) fun q6 m6 r6 k6 => ?_
        replace my := my.step m6 (by simp)
        refine make_C (e := T.uint8) (by_ := 1) (z := .int .u8 0) (l := 32) (k := 32) (by kernel_rfl) (by kernel_rfl) rfl (by omega) q6 7 (by omega) (by omega) fun s7 q7 m7 o7 hn7 hc7 _ => ?_
        replace my := my.step m7 (by simp)
        exact tail q7 s5 s7 my (r6.mv m7 (by simp)) (by omega) (by rw [← zeros]; exact o7.rd) (by omega)
      · refine make_C (e := T.uint8) (by_ := 1) (z := .int .u8 0) (l := 32) (k := 32) (by kernel_rfl) (by kernel_rfl) rfl (by omega) q5 7 (by omega) (by omega) fun s7 q7 m7 o7 hn7 hc7 _ => ?_
        replace my := my.step m7 (by simp)
        refine convRd (e := T.uint8) (by kernel_rfl) (by kernel_rfl) (o5.mv m7 (by simp)) (by simp) fun q6 m6 r6 k6 => ?_
        replace my := my.step m6 (by simp)
        exact tail q6 s5 s7 my r6 (by omega) (by rw [← zeros]; exact k6 _ _ _ o7.rd) (by omega)
    · refine make_C (e := T.uint8) (by_ := 1) (z := .int .u8 0) (l := 32) (k := 32) (by kernel_rfl) (by kernel_rfl) rfl (by omega) q4 7 (by omega) (by omega) fun s7 q7 m7 o7 hn7 hc7 _ => ?_
      replace my := my.step m7 (by simp)
      refine newSl_C q7 7 rfl fun s5 q5 m5 o5 hn5 hc5 => ?_
      replace my := my.step m5 (by simp)
      refine convRd (e := T.uint8) (by kernel_rfl) (by kernel_rfl) o5 (by simp) fun q6 m6 r6 k6 => ?_
      replace my := my.step m6 (by simp)
      exact tail q6 s5 s7 my r6 (by omega) (by rw [← zeros]; exact k6 _ _ _ (o7.rd.mv m5 (by simp))) (by omega)
  · clear m m1 m2 m3 m4 x x3 bx
    rintro _ _ ⟨q, rfl, m, x, bx⟩
    have ex := okX okB4
    refine loadEntryAt (blkCells bx) ex ?_
    refine newStore_C q 7 (by rw [szEntry]; exact lenEntry ex) (by rw [szEntry, List.size_toArray, lenEntry okEntry0]) (fun v hv => Sh.enc_one (s := ShEntry) rfl v hv) fun py q1 m1 bz => ?_
    replace m := m.step m1 (by simp)
    replace x := x.mv m1 (by simp) (by simp) (by simp) (by simp) (by simp)
    replace bx := bx.mv m1 (by simp)
    rw [fldK_some, fldK_some]
    refine store_C bz (by rw [List.size_toArray, lenEntry ex]; omega) rfl fun q2 m2 bz => ?_
    have e65 : (0 + 65 + 0 : Nat) = 65 := rfl
    rw [e65, exSet] at bz
    replace m := m.step m2 (by simp)
    replace x := x.mv m2 (by simp) (by simp) (by simp) (by simp) (by simp)
    replace bx := bx.mv m2 (by simp)
    have ez := okX okB3
    refine chnLen_spec x.ch ⟨_, rfl, ?_⟩
    try dsimp only
    rw [if_pos (by simp)]
    refine loadEntryAt (blkCells bx) ex ?_
    refine mkEntry_C q2 8 ex fun s3 q3 m3 o3 hc3 => ?_
    replace m := m.step m3 (by simp)
    replace x := x.mv m3 (by simp) (by simp) (by simp) (by simp) (by simp)
    replace bz := bz.mv m3 (by simp)
    refine add_spec D (d := 8) (by decide) (by decide) (by decide) (by decide) x s3 [exE body4] (o3.slc rfl (by simp)) (by simp) fun q4 m4 x4 => ⟨_, rfl, ?_⟩
    replace m := m.step m4 (by simp)
    replace bz := bz.mv m4 (by simp)
    rw [ex4] at x4 ⊢
    try dsimp only
    rw [if_pos (by simp)]
    refine loadEntryAt (blkCells bz) ez ?_
    refine mkEntry_C q4 8 ez fun s5 q5 m5 o5 hc5 => ?_
    replace m := m.step m5 (by simp)
    replace x4 := x4.mv m5 (by simp) (by simp) (by simp) (by simp) (by simp)
    refine add_spec D (d := 8) (by decide) (by decide) (by decide) (by decide) x4 s5 [exE body3] (o5.slc rfl (by simp)) (by simp) fun q6 m6 x6 => ⟨_, rfl, ?_⟩
    replace m := m.step m6 (by simp)
    rw [ex5] at x6 ⊢
    try dsimp only
    rw [if_pos (by simp)]
    refine chnLen_spec x6.ch ⟨_, rfl, ?_⟩
    exact fin q6 m

end Go.Proofs.YtobdneijofchkaaGreat
