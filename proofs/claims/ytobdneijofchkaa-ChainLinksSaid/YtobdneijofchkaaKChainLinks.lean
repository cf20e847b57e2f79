/-
  The statement ChainLinks.
-/
import Derived.Test.YtobdneijofchkaaKAwake20
import Derived.Test.YtobdneijofchkaaKLinks
set_option linter.unusedSimpArgs false
set_option linter.unusedVariables false
namespace Go.Proofs.Ytobdneijofchkaa
open Go Go.Ev

/-- Behind the first part: a right chain x of a table. -/
structure L20 (g q : GH) (px pm pg : Nat) (G : List Int) (A : List ShThing.T) (xs : List EntryT) (xl : List (List Int)) : Prop where
  m : Mv [1, 2, 3, 4, 5, 6, 7, 8, 12] g.base q
  ma : MakC q 1 2 pm false [] A
  x : ChnC q 3 4 5 px pm G xs xl
  b : BlkC q 12 pg ⟨ShTag.enc G⟩ T.api_Tag
  good : Good A G xs xl
  small : A.length ≤ 1000

set_option maxHeartbeats 2000000 in
set_option maxRecDepth 20000 in
theorem ChainLinks_spec (g : GH) (G K : List Int) (hG : ShTag.ok G) (hK : ShTag.ok K) (va : Sl) (al : List BodyT) (ha : SlC g 0 ShBody va al) (vb : Sl) (bl : List BodyT) (hb : SlC g 0 ShBody vb bl)
    {R : Value → Heap → Prop} (H : ∀ g' : GH, Mv [] g g' → R (.bool true) g'.h) : HC Try.prog F.law20_ChainLinks #[.agg ⟨ShTag.enc G⟩, .agg ⟨ShTag.enc K⟩, .slice va.a va.n va.c, .slice vb.a vb.n vb.c] R g.h := by
  refine law20_ChainLinks.calls (a2 := va) (b3 := vb) ?_
  unfold law20_ChainLinks.body
  have D1 : Dis 1 2 3 4 5 := ⟨by decide, by decide, by decide, by decide, by decide, by decide, by decide, by decide, by decide, by decide⟩
  have D2 : Dis 1 2 6 7 8 := ⟨by decide, by decide, by decide, by decide, by decide, by decide, by decide, by decide, by decide, by decide⟩
  have m := Mv.refl [1, 2, 3, 4, 5, 6, 7, 8, 12] g.base
  have fin : ∀ q : GH, Mv [1, 2, 3, 4, 5, 6, 7, 8, 12] g.base q → R (.bool true) q.h := fun q m => H (g.via q fun _ => 0) (m.via (by simp) _)
  refine new_C g.base 12 fun pg q1 m1 bg => ?_
  replace m := m.step m1 (by simp)
  refine new_C q1 12 fun pk q2 m2 bk => ?_
  replace m := m.step m2 (by simp)
  replace bg := bg.mv m2 (by simp)
  refine awake20_spec q2 fun q3 m3 => ⟨_, rfl, ?_⟩
  replace m := m.step m3 (by simp)
  replace bg := bg.mv m3 (by simp)
  replace bk := bk.mv m3 (by simp)
  have hna := ha.len
  have hnb := hb.len
  have hsa := ha.small
  have hsb := hb.small
  try dsimp only
  rw [if_neg (by simp), wrapI64 (by omega) (by omega)]
  by_cases hbig : (va.n : Int) + (vb.n : Int) > 120
  · rw [if_pos (by simpa using hbig)]
    exact fin q3 m
  rw [if_neg (by simpa using hbig)]
  refine makNew_spec q3 1 2 false ⟨none, 0, 0⟩ [] (RdC.nil _ _ 0 _ _) (by simp) (by simp) fun pm q4 m4 mk => ⟨_, rfl, ?_⟩
  replace m := m.step m4 (by simp)
  replace bg := bg.mv m4 (by simp)
  replace bk := bk.mv m4 (by simp)
  refine loadTagAt (blkCells bg) hG ?_
  refine chainNew_spec 3 4 5 mk G hG fun px q5 m5 x => ⟨(_, _), rfl, ?_⟩
  replace m := m.step m5 (by simp)
  replace bg := bg.mv m5 (by simp)
  replace bk := bk.mv m5 (by simp)
  replace mk := mk.mv m5 (by simp) (by simp)
  refine loadTagAt (blkCells bk) hK ?_
  refine chainNew_spec 6 7 8 mk K hK fun py q6 m6 y => ⟨(_, _), rfl, ?_⟩
  replace m := m.step m6 (by simp)
  replace bg := bg.mv m6 (by simp)
  replace bk := bk.mv m6 (by simp)
  replace mk := mk.mv m6 (by simp) (by simp)
  replace x := x.mv m6 (by simp) (by simp) (by simp)
  try dsimp only
  rw [if_neg (by simp), if_neg (by simp)]
  have okas : ∀ b ∈ al, ShBody.ok b := (ha.rdF rfl).2
  have okbs : ∀ b ∈ bl, ShBody.ok b := (hb.rdF rfl).2
  refine grown_spec D1 (d := 0) (st0 := ([], [], [])) (by decide) (by decide) (by decide) (by decide) ⟨mk, x⟩ va al (ha.arg m (by simp)) (by simp; omega) fun q7 m7 x7 => ⟨(), rfl, ?_⟩
  have G1 := grown_good hG al ([], [], []) (Good.nil _ _) okas (by simp; omega)
  obtain ⟨st1, hst1⟩ : ∃ st1, st1 = grownT false G ([], [], []) al := ⟨_, rfl⟩
  rw [← hst1] at x7 G1
  replace m := m.step m7 (by simp)
  replace bg := bg.mv m7 (by simp)
  replace bk := bk.mv m7 (by simp)
  replace y := y.mv m7 (by simp) (by simp) (by simp)
  refine grown_spec D2 (d := 0) (st0 := (st1.1, [], [])) (by decide) (by decide) (by decide) (by decide) ⟨x7.ma, y⟩ vb bl (hb.arg m (by simp)) (by simp; omega) fun q8 m8 y8 => ⟨(), rfl, ?_⟩
  have G2 := grown_good hK bl (st1.1, [], []) (Good.nil _ _) okbs (by simp; omega)
  obtain ⟨st2, hst2⟩ : ∃ st2, st2 = grownT false K (st1.1, [], []) bl := ⟨_, rfl⟩
  rw [← hst2] at y8 G2
  replace m := m.step m8 (by simp)
  replace bg := bg.mv m8 (by simp)
  replace bk := bk.mv m8 (by simp)
  have x8 := x7.ch.mv m8 (by simp) (by simp) (by simp)
  have gx : Good st2.1 G st1.2.1 st1.2.2 := G1.1.since G2.2.1
  have gy : Good st2.1 K st2.2.1 st2.2.2 := G2.1
  have s1 := G1.2.2
  have s2 := G2.2.2
  simp only [List.length_nil] at s1
  dsimp only at s2
  have hA : st2.1.length ≤ 240 := by omega
  have n1 := grownT_len false G al ([], [], [])
  rw [← hst1] at n1
  simp only [List.length_nil] at n1
  have n2 := grownT_len false K bl (st1.1, [], [])
  rw [← hst2] at n2
  simp only [List.length_nil] at n2
  refine joinW_intro (fun _ h' => ∃ (q : GH) (A : List ShThing.T), h' = q.h ∧ L20 g q px pm pg G A st1.2.1 st1.2.2) ?_ ?_
  · intro J hJ
    refine chnLen_spec x8 ⟨_, rfl, ?_⟩
    refine chnLen_spec y8.ch ⟨_, rfl, ?_⟩
    try dsimp only
    by_cases hlen : st1.2.1.length = st2.2.1.length
    · rw [if_pos (by rw [hlen]; simp)]
      refine loadTagAt (blkCells bg) hG ?_
      refine loadTagAt (blkCells bk) hK ?_
      refine eqTag_F hG hK ?_
      have hiff := heads_iff (by omega) hG hK gx gy hlen
      have hs1 := head_since st2.1 G st1.2.2
      have hl1 := head_len st2.1 G st1.2.2
      have okh1 := headT_ok gx.tags false st2.1 G
      refine head_spec D1 y8.ma x8 (by omega) fun q9 m9 mk9 => ⟨_, rfl, ?_⟩
      obtain ⟨h1, hh1⟩ : ∃ h1, h1 = headT false st2.1 G st1.2.2 := ⟨_, rfl⟩
      rw [← hh1] at mk9 hiff hs1 hl1 okh1 ⊢
      replace m := m.step m9 (by simp)
      replace bg := bg.mv m9 (by simp)
      replace bk := bk.mv m9 (by simp)
      have x9 := x8.mv m9 (by simp) (by simp) (by simp)
      have y9 := y8.ch.mv m9 (by simp) (by simp) (by simp)
      refine ⟨stillF (s := ShTag) (blkCells bk) szTag (by decide) (lenTag hK), stillF (s := ShTag) (blkCells bg) szTag (by decide) (lenTag hG), ?_⟩
      have hs2 := head_since h1.2 K st2.2.2
      have hl2 := head_len h1.2 K st2.2.2
      have okh2 := headT_ok gy.tags false h1.2 K
      refine head_spec D2 mk9 y9 (by omega) fun q10 m10 mk10 => ⟨_, rfl, ?_⟩
      obtain ⟨h2, hh2⟩ : ∃ h2, h2 = headT false h1.2 K st2.2.2 := ⟨_, rfl⟩
      rw [← hh2] at mk10 hiff hs2 hl2 okh2 ⊢
      replace m := m.step m10 (by simp)
      replace bg := bg.mv m10 (by simp)
      replace bk := bk.mv m10 (by simp)
      have x10 := x9.mv m10 (by simp) (by simp) (by simp)
      have y10 := y9.mv m10 (by simp) (by simp) (by simp)
      refine ⟨stillF (s := ShTag) (blkCells bk) szTag (by decide) (lenTag hK), stillF (s := ShTag) (blkCells bg) szTag (by decide) (lenTag hG), ?_⟩
      refine eqTag_F okh1 okh2 ?_
      by_cases hGK : G = K
      · rw [if_pos (by simpa using hGK)]
        refine chnEntries_spec x10 (by omega) 15 fun s11 q11 m11 o11 => ⟨_, rfl, ?_⟩
        replace m := m.step m11 (by simp)
        refine chnEntries_spec (y10.mv m11 (by simp) (by simp) (by simp)) (by omega) 15 fun s12 q12 m12 o12 => ⟨_, rfl, ?_⟩
        replace m := m.step m12 (by simp)
        refine SameEntries_spec s11 s12 st1.2.1 st2.2.1 ((o11.mv m12 (by simp)).slc rfl (by omega)) (o12.slc rfl (by omega)) ⟨_, rfl, ?_⟩
        try dsimp only
        have e : decide (h1.1 = h2.1) = decide (st1.2.1 = st2.2.1) := by
          rw [decide_eq_decide]
          exact hiff.trans ⟨fun h => h.2, fun h => ⟨hGK, h⟩⟩
        rw [e, if_neg (by simp)]
        exact hJ _ _ ⟨q12, h2.2, rfl, m, (mk10.mv m11 (by simp) (by simp)).mv m12 (by simp) (by simp), (x10.mv m11 (by simp) (by simp) (by simp)).mv m12 (by simp) (by simp) (by simp), (bg.mv m11 (by simp)).mv m12 (by simp), gx.since (hs1.trans hs2), by omega⟩
      · rw [if_neg (by simpa using hGK)]
        have e : decide (h1.1 = h2.1) = false := decide_eq_false fun h => hGK (hiff.1 h).1
        rw [e, if_neg (by simp)]
        exact hJ _ _ ⟨q10, h2.2, rfl, m, mk10, x10, bg, gx.since (hs1.trans hs2), by omega⟩
    · rw [if_neg (by simp; omega)]
      exact hJ _ _ ⟨q8, st2.1, rfl, m, y8.ma, x8, bg, gx, by omega⟩
  · clear m m1 m2 m3 m4 m5 m6 m7 m8 bg bk mk x y x7 y8 x8
    rintro _ _ ⟨q, A, rfl, S⟩
    obtain ⟨m, ma, x, bg, good, small⟩ := S
    replace m : Mv [1, 2, 3, 4, 5, 6, 7, 8, 9, 10, 11, 12, 13] g.base q := m.mono (by simp)
    clear fin
    have fin : ∀ q : GH, Mv [1, 2, 3, 4, 5, 6, 7, 8, 9, 10, 11, 12, 13] g.base q → R (.bool true) q.h := fun q m => H (g.via q fun _ => 0) (m.via (by simp) _)
    have D3 : Dis 1 2 9 10 11 := ⟨by decide, by decide, by decide, by decide, by decide, by decide, by decide, by decide, by decide, by decide⟩
    refine loadTagAt (blkCells bg) hG ?_
    refine chainNew_spec 9 10 11 ma G hG fun pz q1 m1 z => ⟨(_, _), rfl, ?_⟩
    replace m := m.step m1 (by simp)
    replace ma := ma.mv m1 (by simp) (by simp)
    replace x := x.mv m1 (by simp) (by simp) (by simp)
    replace bg := bg.mv m1 (by simp)
    try dsimp only
    have hs0 := head_since A G []
    have htw := head_twice A G []
    have okh0 := headT_ok (ls := []) (by simp) false A G
    refine head_spec D3 ma z (by simp) fun q2 m2 mk2 => ⟨_, rfl, ?_⟩
    obtain ⟨h0, hh0⟩ : ∃ h0, h0 = headT false A G [] := ⟨_, rfl⟩
    rw [← hh0] at mk2 hs0 htw okh0 ⊢
    replace m := m.step m2 (by simp)
    replace x := x.mv m2 (by simp) (by simp) (by simp)
    replace z := z.mv m2 (by simp) (by simp) (by simp)
    replace bg := bg.mv m2 (by simp)
    rw [zTagE]
    refine newStore_C q2 13 (by rw [szTag]; exact lenTag okh0) (by rw [szTag]; exact lenTag ok0) (fun v hv => Sh.enc_one (s := ShTag) rfl v hv) fun pa q3 m3 ba => ?_
    replace m := m.step m3 (by simp)
    replace mk2 := mk2.mv m3 (by simp) (by simp)
    replace x := x.mv m3 (by simp) (by simp) (by simp)
    replace z := z.mv m3 (by simp) (by simp) (by simp)
    replace bg := bg.mv m3 (by simp)
    refine chnEntries_spec x (by omega) 15 fun s4 q4 m4 o4 => ⟨_, rfl, ?_⟩
    replace m := m.step m4 (by simp)
    have gd := good.since hs0
    have hn4 := o4.len
    refine loopW_rule (fun s h' => ∃ (i : Nat) (q : GH), i ≤ st1.2.1.length ∧ s = (i : Int) ∧ h' = q.h ∧ Mv [1, 2, 3, 4, 5, 6, 7, 8, 9, 10, 11, 12, 13] g.base q ∧ MakC q 1 2 pm false [] h0.2 ∧ ChnC q 3 4 5 px pm G st1.2.1 st1.2.2 ∧ ChnC q 9 10 11 pz pm G (st1.2.1.take i) (st1.2.2.take i) ∧
        BlkC q 13 pa ⟨ShTag.enc (headT false h0.2 G (st1.2.2.take i)).1⟩ T.api_Tag ∧ BlkC q 12 pg ⟨ShTag.enc G⟩ T.api_Tag ∧ OwnF T.api_Entry ShEntry q 15 s4 st1.2.1) (fun s => st1.2.1.length - s.toNat)
      ⟨0, q4, by omega, rfl, rfl, m, mk2.mv m4 (by simp) (by simp), x.mv m4 (by simp) (by simp) (by simp), z.mv m4 (by simp) (by simp) (by simp), by rw [List.take_zero, htw]; exact ba.mv m4 (by simp), bg.mv m4 (by simp), o4⟩ ?_
    clear m ma x bg z mk2 ba o4 m1 m2 m3 m4
    rintro X _ _ ⟨i, q, hi, rfl, rfl, m, mk, x, z, ba, bg, o⟩ hX
    try dsimp only
    by_cases hlt : i < st1.2.1.length
    · rw [if_pos (by first | omega | (simp [hn4]; omega))]
      have e1 : st1.2.1[i]? = some st1.2.1[i] := List.getElem?_eq_getElem hlt
      have hli : i < st1.2.2.length := by rw [gd.len]; exact hlt
      have hat := head_at gd hlt
      have haf := head_after gd hli
      have mem := List.getElem_mem hlt
      have oke := gd.ok _ mem
      have okx := gd.tags _ (List.getElem_mem hli)
      rw [hat] at ba
      dsimp only at ba
      have os := o.slc rfl (by omega)
      refine os.idxF rfl szEntry (by decide) hlt fun b1 o1 c1 k1 l1 => ?_
      rw [fldK_some]
      refine loadK_cells (entryAt oke c1).number (k := .int .i64) (j := 0) st1.2.1[i].number rfl rfl ?_
      rw [gd.num i _ e1, if_neg (by simp)]
      refine os.idxF rfl szEntry (by decide) hlt fun b2 o2 c2 k2 l2 => ?_
      rw [fldK_some]
      refine loadTagAt (entryAt oke c2).ahead oke.2.2.1 ?_
      refine loadTagAt (blkCells ba) oke.2.2.1 ?_
      refine neTag_F oke.2.2.1 oke.2.2.1 ?_
      rw [if_neg (by simp)]
      refine os.idxF rfl szEntry (by decide) hlt fun b3 o3 c3 k3 l3 => ?_
      rw [fldK_some]
      refine loadTagAt (entryAt oke c3).game oke.1 ?_
      refine loadTagAt (blkCells bg) hG ?_
      refine neTag_F oke.1 hG ?_
      rw [if_neg (by simpa using gd.same _ mem)]
      refine os.idxF rfl szEntry (by decide) hlt fun b4 o4 c4 k4 l4 => loadF c4 szEntry (by decide) l4 ?_
      refine mkEntry_C q 16 oke fun s5 q5 m5 o5 hc5 => ?_
      replace m := m.step m5 (by simp)
      replace mk := mk.mv m5 (by simp) (by simp)
      replace x := x.mv m5 (by simp) (by simp) (by simp)
      replace z := z.mv m5 (by simp) (by simp) (by simp)
      replace ba := ba.mv m5 (by simp)
      replace bg := bg.mv m5 (by simp)
      replace o := o.mv m5 (by simp)
      refine add_spec D3 (d := 16) (st0 := (h0.2, st1.2.1.take i, st1.2.2.take i)) (by decide) (by decide) (by decide) (by decide) ⟨mk, z⟩ s5 [st1.2.1[i]] (o5.slc rfl (by simp)) (by simp; omega) fun q6 m6 x6 => ⟨_, rfl, ?_⟩
      rw [again_good gd hlt] at x6 ⊢
      replace m := m.step m6 (by simp)
      replace mk := x6.ma
      replace z := x6.ch
      replace x := x.mv m6 (by simp) (by simp) (by simp)
      replace ba := ba.mv m6 (by simp)
      replace bg := bg.mv m6 (by simp)
      replace o := o.mv m6 (by simp)
      try dsimp only
      rw [if_neg (by simp)]
      have ta : tagAt st1.2.2 (i : Int) = (st1.2.2[i], true) := by
        unfold tagAt
        rw [if_pos (by omega)]
        simp [List.getD_eq_getElem?_getD, List.getElem?_eq_getElem hli]
      have tz : tagAt (st1.2.2.take (i + 1)) (i : Int) = (st1.2.2[i], true) := by
        unfold tagAt
        rw [if_pos (by simp; omega)]
        simp [List.getD_eq_getElem?_getD, List.getElem?_eq_getElem hli]
      refine chnTag_spec x (by omega) (i : Int) fun q7 m7 => ⟨(_, _), rfl, ?_⟩
      rw [ta]
      replace m := m.step m7 (by simp)
      replace mk := mk.mv m7 (by simp) (by simp)
      replace x := x.mv m7 (by simp) (by simp) (by simp)
      replace z := z.mv m7 (by simp) (by simp) (by simp)
      replace ba := ba.mv m7 (by simp)
      replace bg := bg.mv m7 (by simp)
      replace o := o.mv m7 (by simp)
      try dsimp only
      refine newStore_C q7 14 (by rw [szTag]; exact lenTag okx) (by rw [szTag]; exact lenTag ok0) (fun v hv => Sh.enc_one (s := ShTag) rfl v hv) fun pt q8 m8 bt => ?_
      replace m := m.step m8 (by simp)
      replace mk := mk.mv m8 (by simp) (by simp)
      replace x := x.mv m8 (by simp) (by simp) (by simp)
      replace z := z.mv m8 (by simp) (by simp) (by simp)
      replace ba := ba.mv m8 (by simp)
      replace bg := bg.mv m8 (by simp)
      replace o := o.mv m8 (by simp)
      refine chnTag_spec z (by simp; omega) (i : Int) fun q9 m9 => ⟨(_, _), rfl, ?_⟩
      rw [tz]
      replace m := m.step m9 (by simp)
      replace mk := mk.mv m9 (by simp) (by simp)
      replace x := x.mv m9 (by simp) (by simp) (by simp)
      replace z := z.mv m9 (by simp) (by simp) (by simp)
      replace ba := ba.mv m9 (by simp)
      replace bg := bg.mv m9 (by simp)
      replace o := o.mv m9 (by simp)
      replace bt := bt.mv m9 (by simp)
      try dsimp only
      refine newStore_C q9 14 (by rw [szTag]; exact lenTag okx) (by rw [szTag]; exact lenTag ok0) (fun v hv => Sh.enc_one (s := ShTag) rfl v hv) fun pu q10 m10 bu => ?_
      replace m := m.step m10 (by simp)
      replace mk := mk.mv m10 (by simp) (by simp)
      replace x := x.mv m10 (by simp) (by simp) (by simp)
      replace z := z.mv m10 (by simp) (by simp) (by simp)
      replace ba := ba.mv m10 (by simp)
      replace bg := bg.mv m10 (by simp)
      replace o := o.mv m10 (by simp)
      replace bt := bt.mv m10 (by simp)
      try dsimp only
      rw [if_neg (by simp)]
      refine ⟨?_, ?_⟩
      all_goals
        rw [if_neg (by simp)]
        first
          | (refine loadTagAt (blkCells bt) okx ?_; refine loadTagAt (blkCells bu) okx ?_)
          | (refine loadTagAt (blkCells bu) okx ?_; refine loadTagAt (blkCells bt) okx ?_)
        refine neTag_F okx okx ?_
        rw [if_neg (by simp)]
        refine loadTagAt (blkCells bt) okx ?_
        refine head_spec D3 mk z (by simp; omega) fun q11 m11 mk11 => ⟨_, rfl, ?_⟩
        rw [haf] at mk11 ⊢
        have bt1 := bt.mv m11 (by simp)
        refine ⟨stillF (s := ShTag) (blkCells bt1) szTag (by decide) (lenTag okx), ?_⟩
        refine neTag_F okx okx ?_
        rw [if_neg (by simp)]
        refine loadTagAt (blkCells bt1) okx ?_
        refine storeAgg_C (ba.mv m11 (by simp)) (by rw [szTag]; exact lenTag okx) (by rw [szTag, List.size_toArray, lenTag oke.2.2.1]; omega) (fun v hv => Sh.enc_one (s := ShTag) rfl v hv) fun q12 m12 ba2 => ?_
        rw [overA_all (by rw [List.size_toArray, lenTag oke.2.2.1]; exact lenTag okx)] at ba2
        rw [wrapSucc (by omega)]
        exact hX _ _ ⟨i + 1, q12, by omega, rfl, rfl, (m.step m11 (by simp)).step m12 (by simp), mk11.mv m12 (by simp) (by simp), (x.mv m11 (by simp) (by simp) (by simp)).mv m12 (by simp) (by simp) (by simp), (z.mv m11 (by simp) (by simp) (by simp)).mv m12 (by simp) (by simp) (by simp), by rw [haf]; exact ba2, (bg.mv m11 (by simp)).mv m12 (by simp), (o.mv m11 (by simp)).mv m12 (by simp)⟩ (by simp; omega)
    · rw [if_neg (by first | omega | (simp [hn4]; omega))]
      clear hX
      have hi' : i = st1.2.1.length := by omega
      subst hi'
      have t1 : st1.2.1.take st1.2.1.length = st1.2.1 := List.take_length
      have t2 : st1.2.2.take st1.2.1.length = st1.2.2 := List.take_of_length_le (by rw [gd.len]; exact Nat.le_refl _)
      rw [t1, t2] at z
      rw [t2] at ba
      have okh := headT_ok gd.tags false h0.2 G
      refine loadTagAt (blkCells ba) okh ?_
      refine head_spec D1 mk x (by omega) fun q1 m1 mk1 => ⟨_, rfl, ?_⟩
      replace m := m.step m1 (by simp)
      replace z := z.mv m1 (by simp) (by simp) (by simp)
      replace ba := ba.mv m1 (by simp)
      replace o := o.mv m1 (by simp)
      refine ⟨stillF (s := ShTag) (blkCells ba) szTag (by decide) (lenTag okh), ?_⟩
      refine eqTag_F okh okh ?_
      rw [if_pos (by simp)]
      refine chnEntries_spec z (by omega) 15 fun s2 q2 m2 o2 => ⟨_, rfl, ?_⟩
      replace m := m.step m2 (by simp)
      refine SameEntries_spec s2 s4 st1.2.1 st1.2.1 (o2.slc rfl (by omega)) ((o.mv m2 (by simp)).slc rfl (by omega)) ⟨_, rfl, ?_⟩
      have e : decide (st1.2.1 = st1.2.1) = true := by simp
      rw [e]
      exact fin q2 m

theorem ChainLinks_walk {h : Heap} (t : Array Value) (z : List Int) (w2 : Lay h ShTag z t.toList) (u : Array Value) (z' : List Int) (w3 : Lay h ShTag z' u.toList) (a : Option Addr) (la ca : Nat) (x : List BodyT) (w : Lay h (.sl ShBody) x [.slice a la ca]) (b : Option Addr) (lb cb : Nat) (y : List BodyT) (w' : Lay h (.sl ShBody) y [.slice b lb cb]) :
    HC Try.prog F.law20_ChainLinks #[.agg t, .agg u, .slice a la ca, .slice b lb cb] (fun v h' => v = .bool true ∧ Ext h h') h := by
  obtain ⟨t⟩ := t
  obtain ⟨u⟩ := u
  obtain ⟨rfl, ok⟩ := LayC.enc (s := ShTag) rfl (w2.arg (Mv.refl [] ⟨h, fun _ => 0⟩) (by simp))
  obtain ⟨rfl, ok'⟩ := LayC.enc (s := ShTag) rfl (w3.arg (Mv.refl [] ⟨h, fun _ => 0⟩) (by simp))
  exact ChainLinks_spec ⟨h, fun _ => 0⟩ z z' ok ok' ⟨a, la, ca⟩ x (w.arg (Mv.refl [] _) (by simp)) ⟨b, lb, cb⟩ y (w'.arg (Mv.refl [] _) (by simp)) fun g' m => ⟨rfl, m.ext (by simp)⟩

end Go.Proofs.Ytobdneijofchkaa
