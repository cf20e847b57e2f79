/-
  The deeds of ChainAdds.
-/
import Derived.Test.YtobdneijofchkaaGreatKAwake20
import Derived.Test.YtobdneijofchkaaGreatKRef20
set_option linter.unusedSimpArgs false
set_option linter.unusedVariables false
namespace Go.Proofs.YtobdneijofchkaaGreat
open Go Go.Ev

abbrev ShDeed20 : Sh := .pair (.int .i64) (.pair (.int .i64) (.pair ShBody (.pair ShEntry .unit)))
abbrev Deed20T := Int × Int × BodyT × EntryT × Unit
theorem szDeed20 : sizeOfT Tryz.prog T.zugzwanglaw20_Deed = 207 := by kernel_rfl
theorem zDeed20 : zerosOf Tryz.prog T.zugzwanglaw20_Deed = ⟨ShDeed20.enc (0, 0, body0, entry0, ())⟩ := by kernel_rfl
theorem okDeed0 : ShDeed20.ok (0, 0, body0, entry0, ()) := ⟨okI0, okI0, okBody0, okEntry0, trivial⟩
theorem lenDeed20 {d : Deed20T} (h : ShDeed20.ok d) : (ShDeed20.enc d).length = 207 := Sh.enc_length rfl h
structure Deed20At (g : GH) (c b o : Nat) (x : Deed20T) : Prop where
  whole : CellsC g c b o (ShDeed20.enc x)
  what : CellsC g c b o [.int .i64 x.1]
  at_ : CellsC g c b (o + 1) [.int .i64 x.2.1]
  bdy : CellsC g c b (o + 2) (ShBody.enc x.2.2.1)
  entry : CellsC g c b (o + 72) (ShEntry.enc x.2.2.2.1)
theorem deed20At {g : GH} {c b o : Nat} {x : Deed20T} (ok : ShDeed20.ok x) (h : CellsC g c b o (ShDeed20.enc x)) : Deed20At g c b o x := by
  have h1 := cellsSnd (n := 1) h rfl
  have h2 := cellsSnd (n := 1) h1 rfl
  have h3 := cellsSnd (n := 70) h2 (lenBody ok.2.2.1)
  exact ⟨h, cellsFst h, cellsFst h1, cellsTo (cellsFst h2) (by omega), cellsTo (cellsFst h3) (by omega)⟩

theorem tagSet (t : List Int) (k : Nat) (n : Int) : (ShTag.enc t).set k (byV n) = ShTag.enc (t.set k n) := by
  rw [encTag, encTag, List.map_set]
theorem entrySetGame (x : EntryT) (k : Nat) (n : Int) (h : ShTag.ok x.game) (hk : k < 32) : (⟨ShEntry.enc x⟩ : Array Value).setIfInBounds k (.int .u8 n) = ⟨ShEntry.enc (x.1.set k n, x.2)⟩ := by
  rw [List.setIfInBounds_toArray]
  show (⟨(ShTag.enc x.1 ++ Sh.enc (.pair (.int .i64) (.pair ShTag (.pair ShBody .unit))) x.2).set k (byV n)⟩ : Array Value) = _
  rw [List.set_append_left _ _ (by rw [lenTag h]; exact hk), tagSet]
  rfl
theorem entrySetAhead (x : EntryT) (k : Nat) (n : Int) (h : ShTag.ok x.game) (h2 : ShTag.ok x.ahead) (hk : k < 32) : (⟨ShEntry.enc x⟩ : Array Value).setIfInBounds (33 + k) (.int .u8 n) = ⟨ShEntry.enc (x.1, x.2.1, x.2.2.1.set k n, x.2.2.2)⟩ := by
  have e : ∀ u : List Int, ShEntry.enc (x.1, x.2.1, u, x.2.2.2) = (ShTag.enc x.1 ++ [.int .i64 x.2.1]) ++ (ShTag.enc u ++ Sh.enc (.pair ShBody .unit) x.2.2.2) := fun u => by simp [Sh.enc]
  have hx := e x.2.2.1
  have hx' : x = (x.1, x.2.1, x.2.2.1, x.2.2.2) := rfl
  rw [List.setIfInBounds_toArray, hx', hx, e]
  have hl : (ShTag.enc x.1 ++ [Value.int .i64 x.2.1]).length = 33 := by simp [lenTag h]
  rw [List.set_append_right _ _ (by omega), hl, Nat.add_sub_cancel_left, List.set_append_left _ _ (by rw [lenTag h2]; exact hk)]
  have := tagSet x.2.2.1 k n
  unfold byV at this
  rw [this]
theorem entrySetNumber (x : EntryT) (n : Int) (h : ShTag.ok x.game) : (⟨ShEntry.enc x⟩ : Array Value).setIfInBounds 32 (.int .i64 n) = ⟨ShEntry.enc (x.1, n, x.2.2)⟩ := by
  have e : ∀ k : Int, ShEntry.enc (x.1, k, x.2.2) = ShTag.enc x.1 ++ (.int .i64 k :: Sh.enc (.pair ShTag (.pair ShBody .unit)) x.2.2) := fun k => by simp [Sh.enc]
  have hx := e x.2.1
  have hx' : x = (x.1, x.2.1, x.2.2) := rfl
  rw [hx', hx, e n]
  exact set_at (lenTag h)
theorem okTagSet {t : List Int} (h : ShTag.ok t) (k : Nat) {n : Int} (hn : isByte n) : ShTag.ok (t.set k n) := okTag (by rw [List.length_set]; exact (okTagB h).1) fun x hx => by
  rcases List.mem_or_eq_of_mem_set hx with hx | rfl
  · exact (okTagB h).2 x hx
  · exact hn
theorem wrap_ok (n : Int) : (Sh.int .i64).ok (IntKind.i64.wrap n) := by
  refine okI ?_
  simp only [IntKind.wrap, IntKind.bits, IntKind.signed]; simp; omega
theorem withBody20 {x : EntryT} (hx : ShEntry.ok x) {b : BodyT} (hb : ShBody.ok b) : overA ⟨ShEntry.enc x⟩ 65 (ShBody.enc b) = ⟨ShEntry.enc (x.1, x.2.1, x.2.2.1, b, ())⟩ := by
  have e : ∀ u : BodyT, ShEntry.enc (x.1, x.2.1, x.2.2.1, u, ()) = (ShTag.enc x.game ++ ([.int .i64 x.number] ++ ShTag.enc x.ahead)) ++ (ShBody.enc u ++ []) := fun u => by simp [Sh.enc]
  have h := e x.what
  have hx' : x = (x.1, x.2.1, x.2.2.1, x.what, ()) := rfl
  rw [hx', h, e b]
  exact over_at (by simp [lenTag hx.1, lenTag hx.2.2.1]) (by rw [lenBody hb, lenBody hx.2.2.2.1])

theorem mkEntries_C (g : GH) (c n : Nat) (bs : List EntryT) (ok : ∀ b ∈ bs, ShEntry.ok b) (hn : bs.length = n) (h0 : 0 < n) (hle : n ≤ 1000) {parts : Array (Nat × Value)} (hp : parts.toList = ((bs.map fun b => Value.agg ⟨ShEntry.enc b⟩).zipIdx).map fun x => (x.2, x.1)) {K : Sl → Heap → Prop}
    (H : ∀ (s : Sl) (g' : GH), Mv [] g g' → OwnF T.api_Entry ShEntry g' c s bs → K s g'.h) : opK Tryz.prog .slice (Instr.buildSlice T.sl_api_Entry n parts) K g.h := by
  refine buildRows_C (e := T.api_Entry) (sz := (ShEntry).size) (z := .agg (zerosOf Tryz.prog T.api_Entry)) (by kernel_rfl) (by kernel_rfl) (by decide) (bs.map fun b => Value.agg ⟨ShEntry.enc b⟩) hp (by
    intro v hv
    obtain ⟨b, hb, rfl⟩ := List.mem_map.1 hv
    have := Sh.enc_length (s := ShEntry) rfl (ok b hb)
    simpa [Value.cells] using this) (by simpa using hn) h0 (by show n * 135 ≤ 16777216; omega) g c fun s g' m o hn' hc => ?_
  refine H s g' m ⟨?_, ok, by rw [hn', hn]⟩
  have : ((bs.map fun b => Value.agg ⟨ShEntry.enc b⟩).flatMap fun v => v.cells.toList) = bs.flatMap ShEntry.enc := by
    rw [List.flatMap_map]
    rfl
  rw [← this]
  exact o

set_option maxHeartbeats 4000000 in
theorem entries20_spec {g : GH} {kc ke c p pm : Nat} (co : Nat) {game : List Int} {es : List EntryT} (x : Chn20 g kc ke p pm game es) (xr : MkR g c pm) (hl : es.length ≤ 1000) (d : Deed20T) (okd : ShDeed20.ok d) {R : Value → Heap → Prop}
    (H : ∀ (s : Sl) (l : List EntryT) (g' : GH), Mv [] g g' → SlC g' co ShEntry s l → l.length ≤ 2 → R (.slice s.a s.n s.c) g'.h) : HC Tryz.prog F.law20_entries #[.pointer (some ⟨p, 0, none⟩), .agg ⟨ShDeed20.enc d⟩] R g.h := by
  refine law20_entries.calls ?_
  unfold law20_entries.body
  have m := Mv.refl [1, 2, 3, 4] g.base
  have fin : ∀ (q : GH) (s : Sl) (l : List EntryT), Mv [1, 2, 3, 4] g.base q → OwnF T.api_Entry ShEntry q 4 s l → l.length ≤ 2 → R (.slice s.a s.n s.c) q.h := fun q s l m o hl => by
    have := (o.via m (by simp) (fun _ => co)).slc rfl (by omega)
    exact H s l (g.via q fun _ => co) (m.via (by simp) _) this hl
  have okw : (Sh.int .i64).ok d.1 := okd.1
  have oka : (Sh.int .i64).ok d.2.1 := okd.2.1
  have hw : -9223372036854775808 ≤ d.1 ∧ d.1 ≤ 9223372036854775807 := okw
  have hat : -9223372036854775808 ≤ d.2.1 ∧ d.2.1 ≤ 9223372036854775807 := oka
  have okb := okd.2.2.1
  have oke := okd.2.2.2.1
  replace xr := xr.base
  replace x := x.base
  refine new_C g.base 1 fun pd q1 m1 bd => ?_
  replace m := m.step m1 (by simp)
  replace xr := xr.mv m1 (by simp)
  replace x := x.mv m1 (by simp) (by simp)
  have da := deed20At okd (blkCells bd)
  rw [fldK_some]
  refine loadBodyAt da.bdy okb ?_
  refine ref20Next_spec x xr (by omega) d.2.2.1 okb fun q2 m2 => ⟨(_, _), rfl, ?_⟩
  replace m := m.step m2 (by simp)
  replace xr := xr.mv m2 (by simp)
  replace x := x.mv m2 (by simp) (by simp)
  replace bd := bd.mv m2 (by simp)
  dsimp only
  obtain ⟨se0, bc0, oe0, hgm⟩ := x
  have okn := okNext20 hgm (show es.length ≤ 1000000 by omega) okb (es := es)
  rw [zEntry]
  refine newStore_C q2 2 (by rw [szEntry]; exact lenEntry okn) (by rw [szEntry, List.size_toArray, lenEntry okEntry0]) (fun v hv => Sh.enc_one (s := ShEntry) rfl v hv) fun px q3 m3 bx => ?_
  replace m := m.step m3 (by simp)
  replace xr := xr.mv m3 (by simp)
  have x : Chn20 q3 0 0 p pm game es := Chn20.mv ⟨se0, bc0, oe0, hgm⟩ m3 (by simp) (by simp)
  replace bd := bd.mv m3 (by simp)
  refine joinW_intro (fun _ h' => ∃ (q : GH) (e : EntryT), h' = q.h ∧ Mv [1, 2, 3, 4] g.base q ∧ MkR q 0 pm ∧ Chn20 q 0 0 p pm game es ∧ BlkC q 1 pd ⟨ShDeed20.enc d⟩ T.zugzwanglaw20_Deed ∧ BlkC q 2 px ⟨ShEntry.enc e⟩ T.api_Entry ∧ ShEntry.ok e) ?_ ?_
  · intro J hJ
    have ex := entryAt okn (blkCells bx)
    rw [fldK_some, fldK_some]
    have bb := bodyAt okn.2.2.2.1 ex.what
    refine loadK_cells bb.say (k := .int .i64) (j := 0) _ rfl rfl ?_
    by_cases h0 : ((next20 game es d.2.2.1).1.what.say == 0) = true
    · rw [if_pos h0]
      obtain ⟨se, bc, oe, _⟩ := x
      have h33 : (chn20A pm game se)[0 + 33]? = some (slV se) := by rw [Nat.zero_add]; exact chn20_33 hgm se
      simp only [derefK_some, fldK_some]
      refine loadTagAt (chn20Game bc) hgm ?_
      rw [loadK_C bc]
      refine ⟨se, h33, ?_⟩
      have da := deed20At okd (blkCells bd)
      refine loadBodyAt da.bdy okb ?_
      refine ref20Head_spec ⟨se, bc, oe, hgm⟩ xr (by omega) fun q4 m4 => ⟨_, rfl, ?_⟩
      replace m := m.step m4 (by simp)
      have bd4 := bd.mv m4 (by simp)
      have bc4 := bc.mv m4 (by simp)
      have da4 := deed20At okd (blkCells bd4)
      refine ⟨stillF (s := ShBody) da4.bdy szBody (by decide) (lenBody okb), stillK_C bc4 h33, stillF (s := ShTag) (chn20Game bc4) szTag (by decide) (lenTag hgm), ?_⟩
      have okh := okHead20 game es
      have oky : ShEntry.ok (game, (es.length : Int), head20 game es, d.2.2.1, ()) := ⟨hgm, okI (by constructor <;> (dsimp only; omega)), okh, okb, trivial⟩
      rw [oe.len, tagA_enc]
      refine ⟨_, build_Entry _ _ _ _ hgm okh okb, ?_⟩
      refine storeAgg_C (bx.mv m4 (by simp)) (by rw [szEntry]; exact lenEntry oky) (by rw [szEntry]; simp [lenEntry okn]) (fun v hv => Sh.enc_one (s := ShEntry) rfl v hv) fun q5 m5 b5 => ?_
      rw [overA_all (by simp [lenEntry okn, lenEntry oky])] at b5
      exact hJ _ _ ⟨q5, _, rfl, m.step m5 (by simp), (xr.mv m4 (by simp)).mv m5 (by simp), ⟨se, bc4.mv m5 (by simp), (oe.mv m4 (by simp)).mv m5 (by simp), hgm⟩, bd4.mv m5 (by simp), b5, oky⟩
    · rw [if_neg h0]
      exact hJ _ _ ⟨q3, _, rfl, m, xr, x, bd, bx, okn⟩
  · clear m m1 m2 m3 xr x bd bx da bc0 oe0
    rintro _ _ ⟨q, e, rfl, m, xr, x, bd, bx, okx⟩
    have da := deed20At okd (blkCells bd)
    have ex := entryAt okx (blkCells bx)
    rw [fldK_some]
    refine loadK_cells da.what (k := .int .i64) (j := 0) _ rfl rfl ?_
    refine Pick_spec d.1 6 hw (by decide) ⟨_, rfl, ?_⟩
    dsimp only
    -- the one entry, at last
    have one : ∀ (q' : GH) (e' : EntryT), Mv [1, 2, 3, 4] g.base q' → BlkC q' 2 px ⟨ShEntry.enc e'⟩ T.api_Entry → ShEntry.ok e' →
        loadAggK (sizeOfT Tryz.prog T.api_Entry) q'.h (some ⟨px, 0, none⟩) (fun (v : Array Value) => opK Tryz.prog .slice (Instr.buildSlice T.sl_api_Entry 1 #[(0, (.agg v))]) (fun (s : Sl) (h : Heap) => R (.slice s.a s.n s.c) h) q'.h) := fun q' e' m' b' ok' => by
      refine loadEntryAt (blkCells b') ok' ?_
      exact mkEntry_C q' 4 ok' fun s q'' m'' o _ => fin q'' s _ (m'.step m'' (by simp)) o (by simp)
    by_cases h1 : (d.1 % 6 == 1) = true
    · rw [if_pos h1, fldK_some]
      refine loadEntryAt da.entry oke ?_
      refine loadEntryAt (blkCells bx) okx ?_
      refine mkEntries_C q 4 2 [d.2.2.2.1, e] (fun b hb => by
        simp at hb
        rcases hb with rfl | rfl
        · exact oke
        · exact okx) rfl (by decide) (by decide) rfl fun s q' m' o => ?_
      exact fin q' s _ (m.step m' (by simp)) o (by simp)
    rw [if_neg h1]
    by_cases h2 : (d.1 % 6 == 2) = true
    · rw [if_pos h2]
      obtain ⟨se, bc, oe, _⟩ := x
      have h33 : (chn20A pm game se)[0 + 33]? = some (slV se) := by rw [Nat.zero_add]; exact chn20_33 hgm se
      have hon := oe.len
      simp only [derefK_some, fldK_some]
      rw [loadK_C bc]
      refine ⟨se, h33, ?_⟩
      by_cases h0 : se.n = 0
      · rw [if_pos (by simp [h0])]
        exact fin q ⟨none, 0, 0⟩ [] m (OwnF.nil _ _ _ _) (by simp)
      · rw [if_neg (by simp; omega)]
        refine joinW_intro (fun (po : Option Addr) h' => ∃ (q : GH) (po' : Nat) (eo : EntryT), po = some ⟨po', 0, none⟩ ∧ h' = q.h ∧ Mv [1, 2, 3, 4] g.base q ∧ BlkC q 1 pd ⟨ShDeed20.enc d⟩ T.zugzwanglaw20_Deed ∧ BlkC q 3 po' ⟨ShEntry.enc eo⟩ T.api_Entry ∧ ShEntry.ok eo) ?_ ?_
        · intro J hJ
          rw [loadK_C bc]
          refine ⟨se, h33, ?_⟩
          refine loadK_cells da.at_ (k := .int .i64) (j := 0) _ rfl rfl ?_
          rw [loadK_C bc]
          refine ⟨se, h33, ?_⟩
          have hm0 := Int.emod_nonneg d.2.1 (b := (se.n : Int)) (by omega)
          have hm1 := Int.emod_lt_of_pos d.2.1 (b := (se.n : Int)) (by omega)
          have hi : d.2.1 % (se.n : Int) = ((d.2.1 % (se.n : Int)).toNat : Int) := by omega
          have hlt : (d.2.1 % (se.n : Int)).toNat < es.length := by omega
          refine ⟨?_, ?_⟩
          · refine Pick_spec d.2.1 se.n hat (by omega) ⟨_, rfl, ?_⟩
            refine ⟨stillK_C bc h33, ?_⟩
            rw [hi]
            refine (oe.slc rfl (by omega)).idxF rfl szF_Entry (by decide) hlt fun b1 o1 c1 ok1 l1 => loadF c1 szF_Entry (by decide) l1 ?_
            try rw [zEntry]
            refine newStore_C q 3 (by rw [szEntry]; exact lenEntry ok1) (by rw [szEntry, List.size_toArray, lenEntry okEntry0]) (fun v hv => Sh.enc_one (s := ShEntry) rfl v hv) fun po q4 m4 bo => ?_
            exact hJ _ _ ⟨q4, po, _, rfl, rfl, m.step m4 (by simp), bd.mv m4 (by simp), bo, ok1⟩
          · try rw [zEntry]
            refine new_C q 3 fun po q4 m4 bo => ?_
            refine Pick_spec d.2.1 se.n hat (by omega) ⟨_, rfl, ?_⟩
            refine ⟨stillK_C (bc.mv m4 (by simp)) h33, ?_⟩
            rw [hi]
            refine ((oe.mv m4 (by simp)).slc rfl (by omega)).idxF rfl szF_Entry (by decide) hlt fun b1 o1 c1 ok1 l1 => loadF c1 szF_Entry (by decide) l1 ?_
            refine storeAgg_C bo (by rw [szEntry]; exact lenEntry ok1) (by rw [szEntry, List.size_toArray, lenEntry okEntry0]; omega) (fun v hv => Sh.enc_one (s := ShEntry) rfl v hv) fun q5 m5 b5 => ?_
            rw [overA_all (by simp [lenEntry okEntry0, lenEntry ok1])] at b5
            exact hJ _ _ ⟨q5, po, _, rfl, rfl, (m.step m4 (by simp)).step m5 (by simp), (bd.mv m4 (by simp)).mv m5 (by simp), b5, ok1⟩
        · clear m xr bd bx da ex bc oe
          rintro _ _ ⟨q, po, eo, rfl, rfl, m, bd, bo, oko⟩
          have da := deed20At okd (blkCells bd)
          refine loadEntryAt (blkCells bo) oko ?_
          try rw [zEntry]
          refine newStore_C q 2 (by rw [szEntry]; exact lenEntry oko) (by rw [szEntry, List.size_toArray, lenEntry okEntry0]) (fun v hv => Sh.enc_one (s := ShEntry) rfl v hv) fun pt q4 m4 bt => ?_
          replace m := m.step m4 (by simp)
          replace bd := bd.mv m4 (by simp)
          replace bo := bo.mv m4 (by simp)
          have da := deed20At okd (blkCells bd)
          try rw [fldK_some]
          refine loadBodyAt da.bdy okb ?_
          rw [fldK_some]
          refine storeAgg_C bt (by rw [szBody]; exact lenBody okb) (by rw [szBody, List.size_toArray, lenEntry oko]; omega) (fun v hv => Sh.enc_one (s := ShBody) rfl v hv) fun q5 m5 b5 => ?_
          replace m := m.step m5 (by simp)
          replace bd := bd.mv m5 (by simp)
          replace bo := bo.mv m5 (by simp)
          rw [Nat.zero_add, withBody20 oko okb] at b5
          have okt : ShEntry.ok (eo.1, eo.2.1, eo.2.2.1, d.2.2.1, ()) := ⟨oko.1, oko.2.1, oko.2.2.1, okb, trivial⟩
          have da := deed20At okd (blkCells bd)
          try rw [fldK_some]
          refine loadK_cells da.at_ (k := .int .i64) (j := 0) _ rfl rfl ?_
          refine ⟨by decide, ?_⟩
          split
          · refine loadEntryAt (blkCells bo) oko ?_
            exact mkEntry_C q5 4 oko fun s q'' m'' o _ => fin q'' s _ (m.step m'' (by simp)) o (by simp)
          · refine loadEntryAt (blkCells b5) okt ?_
            exact mkEntry_C q5 4 okt fun s q'' m'' o _ => fin q'' s _ (m.step m'' (by simp)) o (by simp)
    rw [if_neg h2]
    by_cases h3 : (d.1 % 6 == 3) = true
    · rw [if_pos h3, fldK_some]
      refine loadK_cells da.at_ (k := .int .i64) (j := 0) _ rfl rfl ?_
      refine Pick_spec d.2.1 32 hat (by decide) ⟨_, rfl, ?_⟩
      have hm0 := Int.emod_nonneg d.2.1 (b := 32) (by omega)
      have hm1 := Int.emod_lt_of_pos d.2.1 (b := 32) (by omega)
      have hi : d.2.1 % 32 = ((d.2.1 % 32).toNat : Int) := by omega
      dsimp only
      rw [hi]
      rw [fldK_some]
      refine idxArr_N zU8 (by omega) ?_
      have hla := okTagB okx.2.2.1
      refine loadK_cells ex.ahead (k := .int .u8) (j := (d.2.1 % 32).toNat) (e.ahead[(d.2.1 % 32).toNat]'(by rw [hla.1]; omega)) rfl (by rw [encTag, List.getElem?_map, List.getElem?_eq_getElem (by rw [hla.1]; omega)]; rfl) ?_
      rw [fldK_some]
      refine idxArr_N zU8 (by omega) ?_
      refine store_C bx (by rw [List.size_toArray, lenEntry okx]; omega) rfl fun q4 m4 b4 => ?_
      rw [Nat.zero_add, entrySetAhead e _ _ okx.1 okx.2.2.1 (by omega)] at b4
      exact one q4 _ (m.step m4 (by simp)) b4 ⟨okx.1, okx.2.1, okTagSet okx.2.2.1 _ (isByte_wrap _), okx.2.2.2⟩
    rw [if_neg h3]
    by_cases h4 : (d.1 % 6 == 4) = true
    · rw [if_pos h4, fldK_some]
      refine loadK_cells ex.number (k := .int .i64) (j := 0) _ rfl rfl ?_
      rw [fldK_some]
      refine loadK_cells da.at_ (k := .int .i64) (j := 0) _ rfl rfl ?_
      rw [fldK_some]
      refine store_C bx (by rw [List.size_toArray, lenEntry okx]; omega) rfl fun q4 m4 b4 => ?_
      rw [Nat.zero_add, entrySetNumber e _ okx.1] at b4
      exact one q4 _ (m.step m4 (by simp)) b4 ⟨okx.1, wrap_ok _, okx.2.2⟩
    rw [if_neg h4]
    by_cases h5 : (d.1 % 6 == 5) = true
    · rw [if_pos h5, fldK_some]
      refine loadK_cells da.at_ (k := .int .i64) (j := 0) _ rfl rfl ?_
      refine Pick_spec d.2.1 32 hat (by decide) ⟨_, rfl, ?_⟩
      have hm0 := Int.emod_nonneg d.2.1 (b := 32) (by omega)
      have hm1 := Int.emod_lt_of_pos d.2.1 (b := 32) (by omega)
      have hi : d.2.1 % 32 = ((d.2.1 % 32).toNat : Int) := by omega
      dsimp only
      rw [hi]
      rw [fldK_some]
      refine idxArr_N zU8 (by omega) ?_
      have hla := okTagB okx.1
      refine loadK_cells ex.game (k := .int .u8) (j := (d.2.1 % 32).toNat) (e.game[(d.2.1 % 32).toNat]'(by rw [hla.1]; omega)) (by omega) (by rw [encTag, List.getElem?_map, List.getElem?_eq_getElem (by rw [hla.1]; omega)]; rfl) ?_
      rw [fldK_some]
      refine idxArr_N zU8 (by omega) ?_
      refine store_C bx (by rw [List.size_toArray, lenEntry okx]; omega) rfl fun q4 m4 b4 => ?_
      rw [Nat.add_zero, Nat.zero_add, entrySetGame e _ _ okx.1 (by omega)] at b4
      exact one q4 _ (m.step m4 (by simp)) b4 ⟨okTagSet okx.1 _ (isByte_wrap _), okx.2⟩
    rw [if_neg h5]
    exact one q e m bx okx

end Go.Proofs.YtobdneijofchkaaGreat
