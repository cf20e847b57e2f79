/-
  Deeds of layer 20: what a chain and the document's tell.
-/
import Derived.Test.YtobdneijofchkaaGreatKDeed20
import Derived.Test.YtobdneijofchkaaGreatKWhole21
set_option linter.unusedSimpArgs false
set_option linter.unusedVariables false
namespace Go.Proofs.YtobdneijofchkaaGreat
open Go Go.Ev

theorem next_real (asked : List ShThing.T) (game : List Int) (es : List EntryT) (b : BodyT) : nextT true game (asked, es, es.map tag20) b = ((next20 game es b).2, (next20 game es b).1, asked) := by
  unfold nextT next20
  split
  · simp only [head_real]
  · rfl
theorem D20 : Dis 2 3 4 5 6 := ⟨by decide, by decide, by decide, by decide, by decide, by decide, by decide, by decide, by decide, by decide⟩
theorem entry0_build20 (w : World) : (Instr.build T.api_Entry #[]).run Tryz.prog w = .ok (.agg ⟨ShEntry.enc entry0⟩) w := by kernel_rfl
theorem tag0_build20 (w : World) : (Instr.build T.api_Tag #[]).run Tryz.prog w = .ok (.agg ⟨ShTag.enc zero32⟩) w := by kernel_rfl
theorem maker_build20 (w : World) : (Instr.build T.zugzwangref04_Maker #[(0, .bool true)]).run Tryz.prog w = .ok (.agg #[.bool true, slV ⟨none, 0, 0⟩, slV ⟨none, 0, 0⟩]) w := by kernel_rfl
theorem szIntT : sizeOfT Tryz.prog T.int = (Sh.int .i64).size := by kernel_rfl
theorem loadDeed20At {g : GH} {c b o : Nat} {d : Deed20T} (h : CellsC g c b o (ShDeed20.enc d)) (ok : ShDeed20.ok d) {K : Array Value → Prop} (H : K ⟨ShDeed20.enc d⟩) : loadAggK (sizeOfT Tryz.prog T.zugzwanglaw20_Deed) g.h (some ⟨b, o, none⟩) K :=
  loadF (s := ShDeed20) h szDeed20 (by decide) (lenDeed20 ok) H

set_option maxHeartbeats 2000000 in
theorem same20_spec {g : GH} {p pm p2 pm2 : Nat} {seed game : List Int} {es : List EntryT} {asked : List ShThing.T} (x : CM g 2 3 4 5 6 p pm true seed game (asked, es, es.map tag20)) (y : Chn20 g 9 10 p2 pm2 game es) (z : MkR g 8 pm2) (hl : es.length ≤ 1000) (n : Int) (hn : -9223372036854775808 ≤ n ∧ n ≤ 9223372036854775807) {R : Value → Heap → Prop}
    (H : ∀ g' : GH, Mv [3, 21, 22, 23] g g' → CM g' 2 3 4 5 6 p pm true seed game (asked, es, es.map tag20) → R (.bool true) g'.h) : HC Tryz.prog F.law20_same #[.pointer (some ⟨p, 0, none⟩), .pointer (some ⟨p2, 0, none⟩), .int .i64 n] R g.h := by
  refine law20_same.calls ?_
  unfold law20_same.body
  have ma : MakC g 2 3 pm true seed asked := x.ma
  have ch : ChnC g 4 5 6 p pm game es (es.map tag20) := x.ch
  clear x
  obtain ⟨se, bc, oe, hg⟩ := y
  have hon := oe.len
  have h33 : (chn20A pm2 game se)[0 + 33]? = some (slV se) := by rw [Nat.zero_add]; exact chn20_33 hg se
  have h0 : (chn20A pm2 game se)[0 + 0]? = some (.pointer (some ⟨pm2, 0, none⟩)) := rfl
  simp only [derefK_some, fldK_some]
  rw [loadK_C bc]
  refine ⟨se, h33, ?_⟩
  refine chnLen_spec ch ⟨_, rfl, ?_⟩
  refine ⟨stillK_C bc h33, ?_⟩
  try dsimp only
  rw [if_neg (by simp [hon])]
  have m := Mv.refl [3, 21, 22, 23] g
  refine head_spec D20 ma ch (by omega) fun q1 m1 ma1 => ⟨_, rfl, ?_⟩
  rw [head_real] at ma1 ⊢
  try dsimp only at ma1 ⊢
  replace m := m.step m1 (by simp)
  replace ch := ch.mv m1 (by simp) (by simp) (by simp)
  replace bc := bc.mv m1 (by simp)
  replace oe := oe.mv m1 (by simp)
  replace z := z.mv m1 (by simp)
  refine ref20Head_spec ⟨se, bc, oe, hg⟩ z (by omega) fun q2 m2 => ⟨_, rfl, ?_⟩
  replace m := m.step m2 (by simp)
  replace ma1 := ma1.mv m2 (by simp) (by simp)
  replace ch := ch.mv m2 (by simp) (by simp) (by simp)
  replace bc := bc.mv m2 (by simp)
  replace oe := oe.mv m2 (by simp)
  replace z := z.mv m2 (by simp)
  rw [tagA_enc]
  refine neqTag_F (okHead20 _ _) (okHead20 _ _) ?_
  rw [if_neg (by simp)]
  rw [loadK_C bc]
  refine ⟨se, h33, ?_⟩
  refine chnEntries_spec ch (by omega) 21 fun s3 q3 m3 o3 => ⟨s3, rfl, ?_⟩
  replace m := m.step m3 (by simp)
  replace ma1 := ma1.mv m3 (by simp) (by simp)
  replace ch := ch.mv m3 (by simp) (by simp) (by simp)
  replace bc := bc.mv m3 (by simp)
  replace oe := oe.mv m3 (by simp)
  replace z := z.mv m3 (by simp)
  refine ⟨stillK_C bc h33, ?_⟩
  refine SameEntries_spec s3 se es es (o3.slc rfl (by omega)) (oe.slc rfl (by omega)) ⟨decide (es = es), rfl, ?_⟩
  dsimp only
  rw [if_neg (by simp)]
  simp only [loadK_C bc]
  refine ⟨se, h33, se, h33, ?_⟩
  obtain ⟨ns, hns⟩ : ∃ ns : List Int, ns = [n, -1, 0, IntKind.i64.wrap ((se.n : Int) - 1), (se.n : Int)] := ⟨_, rfl⟩
  have hnl : ns.length = 5 := by rw [hns]; rfl
  refine newSl_C q3 21 rfl fun s4 q4 m4 o4 hn4 hc4 => ?_
  have o4 : OwnF T.int (.int .i64) q4 21 s4 ns := by
    refine ⟨?_, ?_, by rw [hn4, hnl]⟩
    · rw [hns]; exact o4
    · intro v hv
      rw [hns] at hv
      simp only [List.mem_cons, List.mem_nil_iff, or_false] at hv
      rcases hv with rfl | rfl | rfl | rfl | rfl
      · exact hn
      · exact okI (by decide)
      · exact okI0
      · exact wrap_ok _
      · exact okI (by constructor <;> omega)
  replace m := m.step m4 (by simp)
  replace ma1 := ma1.mv m4 (by simp) (by simp)
  replace ch := ch.mv m4 (by simp) (by simp) (by simp)
  replace bc := bc.mv m4 (by simp)
  replace oe := oe.mv m4 (by simp)
  replace z := z.mv m4 (by simp)
  refine loopW_rule (fun s h' => ∃ (i : Nat) (q : GH), i ≤ 5 ∧ s = (i : Int) ∧ h' = q.h ∧ Mv [3, 21, 22, 23] g q ∧ MakC q 2 3 pm true seed asked ∧ ChnC q 4 5 6 p pm game es (es.map tag20) ∧ BlkC q 9 p2 (chn20A pm2 game se) T.zugzwangref20_Chain ∧ OwnF T.api_Entry ShEntry q 10 se es ∧ MkR q 8 pm2 ∧ OwnF T.int (.int .i64) q 21 s4 ns) (fun s => 5 - s.toNat)
    ⟨0, q4, by omega, rfl, rfl, m, ma1, ch, bc, oe, z, o4⟩ ?_
  clear m ma1 ch bc oe z o4 ma m1 m2 m3 m4 o3
  rintro X _ _ ⟨i, q, hi, rfl, rfl, m, ma, ch, bc, oe, z, o4⟩ hX
  have hs4 := o4.len
  by_cases hlt : i < 5
  · rw [if_pos (by simp; omega)]
    have hil : i < ns.length := by omega
    refine (o4.slc rfl (by omega)).idxF rfl szIntT (by decide) hil fun b1 o1 c1 _ l1 => ?_
    refine loadK_cells c1 (k := .int .i64) (j := 0) ns[i] rfl rfl ?_
    generalize hv : ns[i] = v
    refine chnAt_spec ch (by omega) v fun q1 m1 => ⟨(_, _), rfl, ?_⟩
    dsimp only
    have oka : ShEntry.ok (atT es v).1 := atT_ok oe.ok v
    rw [zEntry]
    refine newStore_C q1 22 (by rw [szEntry]; exact lenEntry oka) (by rw [szEntry, List.size_toArray, lenEntry okEntry0]) (fun v hv => Sh.enc_one (s := ShEntry) rfl v hv) fun pe q2 m2 be => ?_
    replace m := (m.step m1 (by simp)).step m2 (by simp)
    replace ma := (ma.mv m1 (by simp) (by simp)).mv m2 (by simp) (by simp)
    replace ch := (ch.mv m1 (by simp) (by simp) (by simp)).mv m2 (by simp) (by simp) (by simp)
    replace bc := (bc.mv m1 (by simp)).mv m2 (by simp)
    replace oe := (oe.mv m1 (by simp)).mv m2 (by simp)
    replace z := (z.mv m1 (by simp)).mv m2 (by simp)
    replace o4 := (o4.mv m1 (by simp)).mv m2 (by simp)
    refine (o4.slc rfl (by omega)).idxF rfl szIntT (by decide) hil fun b1 o1 c1 _ l1 => ?_
    refine loadK_cells c1 (k := .int .i64) (j := 0) ns[i] rfl rfl ?_
    rw [hv]
    refine chnTag_spec ch (by omega) v fun q3 m3 => ⟨(_, _), rfl, ?_⟩
    dsimp only
    have okt : ShTag.ok (tagAt (es.map tag20) v).1 := by
      unfold tagAt
      split
      · rename_i hvl
        have : v.toNat < (es.map tag20).length := by omega
        rw [List.getD_eq_getElem?_getD, List.getElem?_eq_getElem this, Option.getD_some, List.getElem_map]
        exact okSha _
      · exact ok0
    rw [zTagE]
    refine newStore_C q3 23 (by rw [szTag]; exact lenTag okt) (by rw [szTag, List.size_toArray, lenTag ok0]) (fun v hv => Sh.enc_one (s := ShTag) rfl v hv) fun pt q5 m5 bt => ?_
    replace m := (m.step m3 (by simp)).step m5 (by simp)
    replace ma := (ma.mv m3 (by simp) (by simp)).mv m5 (by simp) (by simp)
    replace ch := (ch.mv m3 (by simp) (by simp) (by simp)).mv m5 (by simp) (by simp) (by simp)
    replace bc := (bc.mv m3 (by simp)).mv m5 (by simp)
    replace oe := (oe.mv m3 (by simp)).mv m5 (by simp)
    replace z := (z.mv m3 (by simp)).mv m5 (by simp)
    replace o4 := (o4.mv m3 (by simp)).mv m5 (by simp)
    replace be := (be.mv m3 (by simp)).mv m5 (by simp)
    refine joinW_intro (fun b h' => b = decide (0 ≤ v ∧ v < (se.n : Int)) ∧ h' = q5.h) ?_ ?_
    · intro J hJ
      refine (o4.slc rfl (by omega)).idxF rfl szIntT (by decide) hil fun b1 o1 c1 _ l1 => ?_
      refine loadK_cells c1 (k := .int .i64) (j := 0) ns[i] rfl rfl ?_
      rw [hv]
      by_cases h1 : v ≥ 0
      · rw [if_pos (by simpa using h1)]
        refine (o4.slc rfl (by omega)).idxF rfl szIntT (by decide) hil fun b1 o1 c1 _ l1 => ?_
        refine loadK_cells c1 (k := .int .i64) (j := 0) ns[i] rfl rfl ?_
        rw [hv]
        rw [loadK_C bc]
        refine ⟨se, h33, ?_⟩
        exact hJ _ _ ⟨by simp; omega, rfl⟩
      · rw [if_neg (by simpa using h1)]
        exact hJ _ _ ⟨by simp; omega, rfl⟩
    rintro _ _ ⟨rfl, rfl⟩
    have next : X (IntKind.i64.wrap ((i : Int) + 1)) q5.h := by
      rw [wrapSucc (by omega)]
      exact hX _ _ ⟨i + 1, q5, by omega, rfl, rfl, m, ma, ch, bc, oe, z, o4⟩ (by simp; omega)
    by_cases hin : 0 ≤ v ∧ v < (se.n : Int)
    · obtain ⟨j, rfl⟩ : ∃ j : Nat, v = (j : Int) := ⟨v.toNat, by omega⟩
      have hj : j < es.length := by omega
      have hjm : j < (es.map tag20).length := by simpa using hj
      have e1 : atT es (j : Int) = (es[j], true) := by unfold atT; rw [if_pos (by omega)]; simp [List.getD_eq_getElem?_getD, List.getElem?_eq_getElem hj]
      have e2 : tagAt (es.map tag20) (j : Int) = (tag20 es[j], true) := by unfold tagAt; rw [if_pos (by simp; omega)]; simp [List.getD_eq_getElem?_getD, List.getElem?_eq_getElem hj]
      rw [e1] at be oka ⊢
      rw [e2] at bt okt ⊢
      rw [decide_eq_true hin]
      dsimp only at be bt oka okt ⊢
      rw [if_neg (by simp), if_neg (by simp), if_pos rfl]
      refine (o4.slc rfl (by omega)).idxF rfl szIntT (by decide) hil fun b1 o1 c1 _ l1 => ?_
      refine loadEntryAt (blkCells be) oka ?_
      rw [loadK_C bc]
      refine ⟨se, h33, ?_⟩
      refine loadK_cells c1 (k := .int .i64) (j := 0) ns[i] rfl rfl ?_
      rw [hv]
      refine (oe.slc rfl (by omega)).idxF rfl szF_Entry (by decide) hj fun b2 o2 c2 ok2 l2 => loadF c2 szF_Entry (by decide) l2 ?_
      refine neqF_Entry oka ok2 fun r hr => ?_
      have : r = false := by cases r <;> simp_all
      subst this
      rw [if_neg (by simp)]
      refine (o4.slc rfl (by omega)).idxF rfl szIntT (by decide) hil fun b1 o1 c1 _ l1 => ?_
      refine loadTagAt (blkCells bt) okt ?_
      rw [loadK_C bc]
      refine ⟨_, h0, ?_⟩
      rw [loadK_C bc]
      refine ⟨se, h33, ?_⟩
      refine loadK_cells c1 (k := .int .i64) (j := 0) ns[i] rfl rfl ?_
      rw [hv]
      refine (oe.slc rfl (by omega)).idxF rfl szF_Entry (by decide) hj fun b2 o2 c2 ok2 l2 => loadF c2 szF_Entry (by decide) l2 ?_
      refine ref20Tag_spec z es[j] ok2 fun q6 m6 => ⟨_, rfl, ?_⟩
      refine ⟨stillF (s := ShTag) (blkCells (bt.mv m6 (by simp))) szTag (by decide) (lenTag okt), ?_⟩
      rw [tagA_enc]
      refine neqTag_F okt okt ?_
      rw [if_neg (by simp), if_neg (by simp)]
      rw [wrapSucc (by omega)]
      exact hX _ _ ⟨i + 1, q6, by omega, rfl, rfl, m.step m6 (by simp), ma.mv m6 (by simp) (by simp), ch.mv m6 (by simp) (by simp) (by simp), bc.mv m6 (by simp), oe.mv m6 (by simp), z.mv m6 (by simp), o4.mv m6 (by simp)⟩ (by simp; omega)
    · have e1 : atT es v = (entry0, false) := by unfold atT; rw [if_neg (by omega)]
      have e2 : tagAt (es.map tag20) v = (zero32, false) := by unfold tagAt; rw [if_neg (by simp; omega)]
      rw [e1] at be oka ⊢
      rw [e2] at bt okt ⊢
      rw [decide_eq_false hin]
      dsimp only at be bt oka okt ⊢
      rw [if_neg (by simp), if_neg (by simp), if_neg (by simp), if_pos (show (!false) = true from rfl)]
      refine ⟨_, entry0_build20, ?_⟩
      refine loadEntryAt (blkCells be) oka ?_
      refine neqF_Entry oka oka fun r hr => ?_
      have : r = false := by cases r <;> simp_all
      subst this
      rw [if_neg (by simp)]
      refine ⟨_, tag0_build20, ?_⟩
      refine loadTagAt (blkCells bt) okt ?_
      refine neqTag_F okt okt ?_
      rw [if_neg (by simp)]
      exact next
  · rw [if_neg (by simp; omega)]
    exact H q m ⟨ma, ch⟩

abbrev KA : List Nat := [1, 2, 3, 4, 5, 6, 7, 8, 9, 10, 11, 12, 13, 14, 15, 16, 17, 18, 19, 20, 21, 22, 23]
def reA (k : Nat) : Nat := if k = 4 ∨ k = 5 ∨ k = 6 then 20 else if k = 17 then 4 else if k = 18 then 5 else if k = 19 then 6 else k
theorem freshBase (g : GH) {k : Nat} (h : k ≠ 0) : Fresh g.base k := fun b _ e => h e.symm
theorem Chn20.re {K : List Nat} {g q : GH} {kc ke p pm : Nat} {game : List Int} {es : List EntryT} (x : Chn20 q kc ke p pm game es) (m : Mv K g q) {φ : Nat → Nat} (h1 : φ kc = kc ∨ Fresh g kc) (h2 : φ ke = ke ∨ Fresh g ke) : Chn20 (g.via q φ) (φ kc) (φ ke) p pm game es := by
  obtain ⟨se, b, o, h⟩ := x
  exact ⟨se, b.re m h1, o.re m h2, h⟩
theorem MkR.re {K : List Nat} {g q : GH} {c p : Nat} (x : MkR q c p) (m : Mv K g q) {φ : Nat → Nat} (h1 : φ c = c ∨ Fresh g c) : MkR (g.via q φ) (φ c) p := by
  obtain ⟨cells, e, b, h⟩ := x
  exact ⟨cells, e, b.re m h1, h⟩

/-- What stands between two deeds. -/
structure Side20 (q : GH) (p pm p2 pm2 : Nat) (game : List Int) (es : List EntryT) (asked : List ShThing.T) : Prop where
  cm : CM q 2 3 4 5 6 p pm true [] game (asked, es, es.map tag20)
  ch : Chn20 q 9 10 p2 pm2 game es
  mkr : MkR q 8 pm2
theorem Side20.mv {K : List Nat} {q q' : GH} {p pm p2 pm2 : Nat} {game : List Int} {es : List EntryT} {asked : List ShThing.T} (x : Side20 q p pm p2 pm2 game es asked) (m : Mv K q q') (h : ∀ j ∈ [2, 3, 4, 5, 6, 8, 9, 10], j ∉ K) : Side20 q' p pm p2 pm2 game es asked :=
  ⟨x.cm.mv m (h _ (by simp)) (h _ (by simp)) (h _ (by simp)) (h _ (by simp)) (h _ (by simp)), x.ch.mv m (h _ (by simp)) (h _ (by simp)), x.mkr.mv m (h _ (by simp))⟩
theorem Side20.side {q q' : GH} {p pm p2 pm2 : Nat} {game : List Int} {es es' : List EntryT} {asked : List ShThing.T} {K : List Nat} (x : Side20 q p pm p2 pm2 game es asked) (m : Mv K q q') (h : ∀ j ∈ [8, 9, 10], j ∉ K) (y : CM q' 2 3 4 5 6 p pm true [] game (asked, es, es.map tag20)) : Side20 q' p pm p2 pm2 game es asked :=
  ⟨y, x.ch.mv m (h _ (by simp)) (h _ (by simp)), x.mkr.mv m (h _ (by simp))⟩
theorem add20_len (game : List Int) : ∀ (l es : List EntryT), (add20 game es l).2.length ≤ es.length + l.length
  | [], es => by simp [add20]
  | e :: l, es => by
    rw [add20]
    split
    · have := add20_len game l (es ++ [e])
      simp only [List.length_append, List.length_cons, List.length_nil] at this ⊢
      omega
    · simp

set_option maxHeartbeats 4000000 in
theorem chainAdds_spec (g : GH) {d : Nat} (game : List Int) (hg : ShTag.ok game) (v : Sl) (l : List Deed20T) (hv : SlC g d ShDeed20 v l) {R : Value → Heap → Prop} (H : ∀ g' : GH, Mv [] g g' → R (.bool true) g'.h) : HC Tryz.prog F.law20_ChainAdds #[.agg ⟨ShTag.enc game⟩, .slice v.a v.n v.c] R g.h := by
  refine law20_ChainAdds.calls (l1 := v) ?_
  unfold law20_ChainAdds.body
  have hn := hv.len
  have m := Mv.refl KA g.base
  refine new_C g.base 1 fun pg q1 m1 b1 => ?_
  replace m := m.step m1 (by simp)
  by_cases hbig : (v.n : Int) > 120
  · rw [if_pos (by simpa using hbig)]
    exact awake20_spec q1 fun q2 m2 => ⟨_, rfl, H (g.via q2 fun _ => 0) ((m.step m2 (by simp)).via (by simp) _)⟩
  rw [if_neg (by simpa using hbig)]
  refine joinW_intro (fun s h' => ∃ (p pm p2 pm2 : Nat) (q : GH), s = (some ⟨p, 0, none⟩, some ⟨p2, 0, none⟩) ∧ h' = q.h ∧ Mv KA g.base q ∧ Side20 q p pm p2 pm2 game [] []) ?_ ?_
  · intro J hJ
    refine ⟨_, maker_build20, ?_⟩
    refine loadTagAt (blkCells b1) hg ?_
    refine loadTagAt (blkCells b1) hg ?_
    refine ⟨?_, ?_⟩
    · refine of20_spec q1 2 3 4 5 6 true game hg fun pm p q2 m2 x => ⟨_, rfl, ?_⟩
      refine ⟨stillF (s := ShTag) (blkCells (b1.mv m2 (by simp))) szTag (by decide) (lenTag hg), ?_⟩
      refine new_C q2 8 fun pm2 q3 m3 b3 => ?_
      refine ⟨_, build20 pm2 game hg, ?_⟩
      refine new_C q3 9 fun p2 q4 m4 b4 => ?_
      exact hJ _ _ ⟨p, pm, p2, pm2, q4, rfl, rfl, ((m.step m2 (by simp)).step m3 (by simp)).step m4 (by simp), (x.mv m3 (by simp) (by simp) (by simp) (by simp) (by simp)).mv m4 (by simp) (by simp) (by simp) (by simp) (by simp), ⟨_, b4, OwnF.nil _ _ _ _, hg⟩, ⟨_, _, b3.mv m4 (by simp), rfl⟩⟩
    · refine new_C q1 8 fun pm2 q3 m3 b3 => ?_
      refine ⟨_, build20 pm2 game hg, ?_⟩
      refine ⟨?_, ?_⟩
      · refine of20_spec q3 2 3 4 5 6 true game hg fun pm p q2 m2 x => ⟨_, rfl, ?_⟩
        refine ⟨stillF (s := ShTag) (blkCells ((b1.mv m3 (by simp)).mv m2 (by simp))) szTag (by decide) (lenTag hg), ?_⟩
        refine new_C q2 9 fun p2 q4 m4 b4 => ?_
        exact hJ _ _ ⟨p, pm, p2, pm2, q4, rfl, rfl, ((m.step m3 (by simp)).step m2 (by simp)).step m4 (by simp), x.mv m4 (by simp) (by simp) (by simp) (by simp) (by simp), ⟨_, b4, OwnF.nil _ _ _ _, hg⟩, ⟨_, _, (b3.mv m2 (by simp)).mv m4 (by simp), rfl⟩⟩
      · refine new_C q3 9 fun p2 q4 m4 b4 => ?_
        refine of20_spec q4 2 3 4 5 6 true game hg fun pm p q2 m2 x => ⟨_, rfl, ?_⟩
        exact hJ _ _ ⟨p, pm, p2, pm2, q2, rfl, rfl, ((m.step m3 (by simp)).step m4 (by simp)).step m2 (by simp), x, ⟨_, b4.mv m2 (by simp), OwnF.nil _ _ _ _, hg⟩, ⟨_, _, (b3.mv m4 (by simp)).mv m2 (by simp), rfl⟩⟩
  clear m m1 b1
  rintro _ _ ⟨p0, pm, p2, pm2, q0, rfl, rfl, m, x⟩
  refine loopW_rule (fun s h' => ∃ (i p : Nat) (q : GH) (es : List EntryT) (asked : List ShThing.T), i ≤ l.length ∧ s = (some ⟨p, 0, none⟩, (i : Int)) ∧ h' = q.h ∧ Mv KA g.base q ∧ Side20 q p pm p2 pm2 game es asked ∧ es.length ≤ 2 * i) (fun s => l.length - s.2.toNat)
    ⟨0, p0, q0, [], [], by omega, rfl, rfl, m, x, by simp⟩ ?_
  clear m x
  rintro X _ _ ⟨i, p, q, es, asked, hi, rfl, rfl, m, x, hlen⟩ hX
  dsimp only
  by_cases hlt : i < l.length
  · rw [if_pos (by simp; omega)]
    refine (hv.arg m (by simp)).idxF rfl szDeed20 (by decide) hlt fun b1 o1 c1 okd _ => loadDeed20At c1 okd ?_
    generalize l[i] = D at okd
    have okb := okd.2.2.1
    have oke := okd.2.2.2.1
    rw [zDeed20]
    refine newStore_C q 14 (by rw [szDeed20]; exact lenDeed20 okd) (by rw [szDeed20, List.size_toArray, lenDeed20 okDeed0]) (fun v hv => Sh.enc_one (s := ShDeed20) rfl v hv) fun pd q2 m2 bd => ?_
    replace m := m.step m2 (by simp)
    replace x := x.mv m2 (by simp)
    rw [fldK_some]
    refine loadBodyAt (deed20At okd (blkCells bd)).bdy okb ?_
    refine chnNext_spec D20 x.cm (show es.length ≤ _ by omega) D.2.2.1 okb fun q3 m3 x3 okx => ⟨(_, _), rfl, ?_⟩
    rw [next_real] at x3 okx ⊢
    dsimp only at x3 okx ⊢
    replace m := m.step m3 (by simp)
    replace x := x.side m3 (by simp) x3 (es' := es)
    replace bd := bd.mv m3 (by simp)
    rw [zEntry]
    refine newStore_C q3 15 (by rw [szEntry]; exact lenEntry okx) (by rw [szEntry, List.size_toArray, lenEntry okEntry0]) (fun v hv => Sh.enc_one (s := ShEntry) rfl v hv) fun px q4 m4 bx => ?_
    replace m := m.step m4 (by simp)
    replace x := x.mv m4 (by simp)
    replace bd := bd.mv m4 (by simp)
    try rw [fldK_some]
    refine loadBodyAt (deed20At okd (blkCells bd)).bdy okb ?_
    refine ref20Next_spec x.ch x.mkr (show es.length ≤ _ by omega) D.2.2.1 okb fun q5 m5 => ⟨(_, _), rfl, ?_⟩
    dsimp only
    replace m := m.step m5 (by simp)
    replace x := x.mv m5 (by simp)
    replace bd := bd.mv m5 (by simp)
    replace bx := bx.mv m5 (by simp)
    refine newStore_C q5 16 (by rw [szEntry]; exact lenEntry okx) (by rw [szEntry, List.size_toArray, lenEntry okEntry0]) (fun v hv => Sh.enc_one (s := ShEntry) rfl v hv) fun py q6 m6 bY => ?_
    replace m := m.step m6 (by simp)
    replace x := x.mv m6 (by simp)
    replace bd := bd.mv m6 (by simp)
    replace bx := bx.mv m6 (by simp)
    refine loadEntryAt (blkCells bx) okx ?_
    refine loadEntryAt (blkCells bY) okx ?_
    refine neqF_Entry okx okx fun r hr => ?_
    have : r = false := by cases r <;> simp_all
    subst this
    rw [if_neg (by simp), if_neg (by simp)]
    clear hr bY
    simp only [fldK_some]
    refine loadEntryAt (deed20At okd (blkCells bd)).entry oke ?_
    refine loadEntryAt (deed20At okd (blkCells bd)).entry oke ?_
    refine why_spec D20 x.cm.ma x.cm.ch (show es.length ≤ _ by omega) D.2.2.2.1 oke fun q7 m7 x7 => ⟨_, rfl, ?_⟩
    have hwr : whyT true asked game es (es.map tag20) D.2.2.2.1 = (why20 game es D.2.2.2.1, asked) := why_real asked game es D.2.2.2.1
    dsimp only at x7 ⊢
    rw [hwr] at x7 ⊢
    dsimp only at x7 ⊢
    replace m := m.step m7 (by simp)
    replace x := x.side m7 (by simp) ⟨x7, x.cm.ch.mv m7 (by simp) (by simp) (by simp)⟩ (es' := es)
    replace bd := bd.mv m7 (by simp)
    replace bx := bx.mv m7 (by simp)
    refine ⟨stillF (s := ShEntry) (deed20At okd (blkCells bd)).entry szEntry (by decide) (lenEntry oke), ?_⟩
    refine ref20Why_spec x.ch x.mkr (show es.length ≤ _ by omega) D.2.2.2.1 oke fun q8 m8 => ⟨_, rfl, ?_⟩
    replace m := m.step m8 (by simp)
    replace x := x.mv m8 (by simp)
    replace bd := bd.mv m8 (by simp)
    replace bx := bx.mv m8 (by simp)
    dsimp only
    rw [if_neg (by simp)]
    refine loadK_cells (deed20At okd (blkCells bd)).what (k := .int .i64) (j := 0) D.1 rfl rfl ?_
    refine Pick_spec D.1 7 okd.1 (by decide) ⟨_, rfl, ?_⟩
    dsimp only
    by_cases h6 : (D.1 % 7 == 6) = true
    · rw [if_pos h6]
      refine chnCopy_spec x.cm.ch (show es.length ≤ _ by omega) 17 18 19 fun p' q9 m9 ch9 => ⟨_, rfl, ?_⟩
      replace m := m.step m9 (by simp)
      replace x := x.mv m9 (by simp)
      replace bx := bx.mv m9 (by simp)
      refine loadEntryAt (blkCells bx) okx ?_
      refine mkEntry_C q9 7 okx fun s10 q10 m10 o10 _ => ?_
      replace m := m.step m10 (by simp)
      replace x := x.mv m10 (by simp)
      replace ch9 := ch9.mv m10 (by simp) (by simp) (by simp)
      refine add_spec D20 (d := 7) (by decide) (by decide) (by decide) (by decide) x.cm s10 _ (o10.slc rfl (by simp)) (by show es.length + _ ≤ _; simp; omega) fun q11 m11 x11 => ⟨_, rfl, ?_⟩
      rw [add_real] at x11
      replace m := m.step m11 (by simp)
      replace ch9 := ch9.mv m11 (by simp) (by simp) (by simp)
      have y11 := x.ch.mv m11 (by simp) (by simp)
      have z11 := x.mkr.mv m11 (by simp)
      have hl11 := add20_len game [(next20 game es D.2.2.1).1] es
      have hle : ((add20 game es [(next20 game es D.2.2.1).1]).2).length ≤ 1000 := by
        simp only [List.length_cons, List.length_nil] at hl11
        omega
      refine chnEntries_spec x11.ch (show (add20 game es [(next20 game es D.2.2.1).1]).2.length ≤ _ by omega) 13 fun s12 q12 m12 o12 => ⟨s12, rfl, ?_⟩
      have hs12 := o12.len
      refine OverEntries_C s12 (c := 13) o12.own (by dsimp only at hs12; omega) fun q13 m13 => ⟨(), rfl, ?_⟩
      rw [wrapSucc (by omega)]
      have M := (m.step m12 (by simp)).step m13 (by simp)
      have c13 := (ch9.mv m12 (by simp) (by simp) (by simp)).mv m13 (by simp) (by simp) (by simp)
      have y13 := (y11.mv m12 (by simp) (by simp)).mv m13 (by simp) (by simp)
      have z13 := (z11.mv m12 (by simp)).mv m13 (by simp)
      have a13 := (x11.ma.mv m12 (by simp) (by simp)).mv m13 (by simp) (by simp)
      refine hX _ _ ⟨i + 1, p', g.base.via q13 reA, es, asked, by omega, rfl, rfl, M.re reA (fun k hk => .inl hk), ⟨⟨?_, ?_⟩, ?_, ?_⟩, by omega⟩ (by simp; omega)
      · exact a13.re (φ := reA) M (.inl rfl) (.inl rfl)
      · exact c13.re (φ := reA) M (.inr (freshBase g (by decide))) (.inr (freshBase g (by decide))) (.inr (freshBase g (by decide)))
      · exact y13.re (φ := reA) M (.inl rfl) (.inl rfl)
      · exact z13.re (φ := reA) M (.inl rfl)
    rw [if_neg h6]
    refine loadDeed20At (deed20At okd (blkCells bd)).whole okd ?_
    refine entries20_spec 11 x.ch x.mkr (by omega) D okd fun s9 l9 q9 m9 o9 h9 => ⟨s9, rfl, ?_⟩
    replace m := m.step m9 (by simp)
    replace x := x.mv m9 (by simp)
    replace bd := bd.mv m9 (by simp)
    refine LentEntries_C q9 12 s9 l9 o9 (by omega) fun s10 q10 m10 o10 => ⟨s10, rfl, ?_⟩
    replace m := m.step m10 (by simp)
    replace x := x.mv m10 (by simp)
    replace bd := bd.mv m10 (by simp)
    replace o9 := o9.mv m10 (by simp)
    refine add_spec D20 (d := 12) (by decide) (by decide) (by decide) (by decide) x.cm s10 l9 (o10.slc rfl (by omega)) (by show es.length + _ ≤ _; omega) fun q11 m11 x11 => ⟨_, rfl, ?_⟩
    rw [add_real] at x11 ⊢
    dsimp only at x11 ⊢
    replace m := m.step m11 (by simp)
    replace bd := bd.mv m11 (by simp)
    replace o9 := o9.mv m11 (by simp)
    replace o10 := o10.mv m11 (by simp)
    have y11 := x.ch.mv m11 (by simp) (by simp)
    have z11 := x.mkr.mv m11 (by simp)
    have hl11 := add20_len game l9 es
    refine ref20Add_spec (d := 11) (by decide) (by decide) (by decide) (by decide) (by decide) y11 z11 s9 l9 o9 (by omega) fun q12 m12 y12 => ⟨_, rfl, ?_⟩
    dsimp only
    replace m := m.step m12 (by simp)
    replace bd := bd.mv m12 (by simp)
    replace o9 := o9.mv m12 (by simp)
    replace o10 := o10.mv m12 (by simp)
    replace z11 := z11.mv m12 (by simp)
    replace x11 := x11.mv m12 (by simp) (by simp) (by simp) (by simp) (by simp)
    rw [if_neg (by simp)]
    refine KeptEntries_C s10 s9 l9 o10 o9 (by omega) fun q13 m13 => ⟨true, rfl, ?_⟩
    replace m := m.step m13 (by simp)
    replace bd := bd.mv m13 (by simp)
    replace z11 := z11.mv m13 (by simp)
    replace y12 := y12.mv m13 (by simp) (by simp)
    replace x11 := x11.mv m13 (by simp) (by simp) (by simp) (by simp) (by simp)
    dsimp only
    rw [if_neg (by simp)]
    refine loadK_cells (deed20At okd (blkCells bd)).at_ (k := .int .i64) (j := 0) D.2.1 rfl rfl ?_
    refine same20_spec x11 y12 z11 (by omega) D.2.1 okd.2.1 fun q14 m14 x14 => ⟨true, rfl, ?_⟩
    dsimp only
    rw [if_neg (by simp), wrapSucc (by omega)]
    exact hX _ _ ⟨i + 1, p, q14, (add20 game es l9).2, asked, by omega, rfl, rfl, m.step m14 (by simp), ⟨x14, y12.mv m14 (by simp) (by simp), z11.mv m14 (by simp)⟩, by omega⟩ (by simp; omega)
  · rw [if_neg (by simp; omega)]
    refine same20_spec x.cm x.ch x.mkr (by omega) 0 (by decide) fun q14 m14 x14 => ⟨true, rfl, ?_⟩
    dsimp only
    rw [if_pos rfl]
    exact awake20_spec q14 fun q15 m15 => ⟨_, rfl, H (g.via q15 fun _ => 0) (((m.step m14 (by simp)).step m15 (by simp)).via (by simp) _)⟩

theorem ChainAdds_walk {h : Heap} (t : Array Value) (z : List Int) (w2 : Lay h ShTag z t.toList) (a : Option Addr) (la ca : Nat) (x : List Deed20T) (w : Lay h (.sl ShDeed20) x [.slice a la ca]) :
    HC Tryz.prog F.law20_ChainAdds #[.agg t, .slice a la ca] (fun v h' => v = .bool true ∧ Ext h h') h := by
  obtain ⟨t⟩ := t
  obtain ⟨rfl, ok⟩ := LayC.enc (s := ShTag) rfl (w2.arg (Mv.refl [] ⟨h, fun _ => 0⟩) (by simp))
  exact chainAdds_spec ⟨h, fun _ => 0⟩ z ok ⟨a, la, ca⟩ x (d := 0) (w.arg (Mv.refl [] _) (by simp)) fun g' m => ⟨rfl, m.ext (by simp)⟩

end Go.Proofs.YtobdneijofchkaaGreat
