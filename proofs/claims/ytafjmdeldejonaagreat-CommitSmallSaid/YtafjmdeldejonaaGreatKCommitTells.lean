/-
  CommitTells.
-/
import Derived.Test.YtafjmdeldejonaaGreatKMoves22
import Derived.Test.YtafjmdeldejonaaGreatKCommitCovers
set_option linter.unusedSimpArgs false
set_option linter.unusedVariables false
namespace Go.Proofs.YtafjmdeldejonaaGreat
open Go Go.Ev

theorem someT_real (A : List ShThing.T) (is : Bool) (nonce : List Int) (rows : List (List Int)) : (someT true A is nonce rows).2.2 = A := by
  unfold someT
  split
  · exact coverT_real _ _ _
  · rfl
theorem mkTags_C (g : GH) (c n : Nat) (bs : List (List Int)) (ok : ∀ b ∈ bs, ShTag.ok b) (hn : bs.length = n) (h0 : 0 < n) (hle : n ≤ 1000) {parts : Array (Nat × Value)} (hp : parts.toList = ((bs.map fun b => Value.agg ⟨ShTag.enc b⟩).zipIdx).map fun x => (x.2, x.1)) {K : Sl → Heap → Prop}
    (H : ∀ (s : Sl) (g' : GH), Mv [] g g' → OwnF T.api_Tag ShTag g' c s bs → K s g'.h) : opK Tryz.prog .slice (Instr.buildSlice T.sl_api_Tag n parts) K g.h := by
  refine buildRows_C (e := T.api_Tag) (sz := (ShTag).size) (z := .agg (zerosOf Tryz.prog T.api_Tag)) (by kernel_rfl) (by kernel_rfl) (by decide) (bs.map fun b => Value.agg ⟨ShTag.enc b⟩) hp (by
    intro v hv
    obtain ⟨b, hb, rfl⟩ := List.mem_map.1 hv
    have := Sh.enc_length (s := ShTag) rfl (ok b hb)
    simpa [Value.cells] using this) (by simpa using hn) h0 (by show n * 32 ≤ 16777216; omega) g c fun s g' m o hn' hc => ?_
  refine H s g' m ⟨?_, ok, by rw [hn', hn]⟩
  have : ((bs.map fun b => Value.agg ⟨ShTag.enc b⟩).flatMap fun v => v.cells.toList) = bs.flatMap ShTag.enc := by
    rw [List.flatMap_map]
    rfl
  rw [← this]
  exact o

abbrev KT22 : List Nat := [1, 2, 3, 4, 5, 6, 7, 8, 9, 10, 11, 12]
set_option maxHeartbeats 4000000 in
theorem tells22_spec (g : GH) (t game : List Int) (okt : ShTag.ok t) (okg : ShTag.ok game) (player bit number : Int) (x : MoveT) (okx : ShMove.ok x) (nonce : List Int) (okn : ShTag.ok nonce) {R : Value → Heap → Prop}
    (H : ∀ g' : GH, Mv [] g g' → R (.bool true) g'.h) : HC Tryz.prog F.law22_tells #[.agg (tagA t), .agg (tagA game), .int .i64 player, .int .i64 bit, .int .i64 number, .agg ⟨ShMove.enc x⟩, .agg (tagA nonce)] R g.h := by
  refine law22_tells.calls ?_
  unfold law22_tells.body
  have htb := okTagB okt
  have hgb := okTagB okg
  have hnb := okTagB okn
  have m := Mv.refl KT22 g.base
  refine new_C g.base 1 fun pt q1 m1 bt => ?_
  replace m := m.step m1 (by simp)
  refine new_C q1 2 fun pg q2 m2 bg => ?_
  replace m := m.step m2 (by simp)
  replace bt := bt.mv m2 (by simp)
  refine new_C q2 3 fun px q3 m3 bx => ?_
  replace m := m.step m3 (by simp)
  replace bt := bt.mv m3 (by simp)
  replace bg := bg.mv m3 (by simp)
  refine new_C q3 4 fun pn q4 m4 bn => ?_
  replace m := m.step m4 (by simp)
  replace bt := bt.mv m4 (by simp)
  replace bg := bg.mv m4 (by simp)
  replace bx := bx.mv m4 (by simp)
  refine makNew_spec q4 5 6 true ⟨none, 0, 0⟩ [] (RdC.nil _ _ 0 _ _) (by simp) (by simp) fun pm q5 m5 xm => ⟨_, rfl, ?_⟩
  replace m := m.step m5 (by simp)
  replace bt := bt.mv m5 (by simp)
  replace bg := bg.mv m5 (by simp)
  replace bx := bx.mv m5 (by simp)
  replace bn := bn.mv m5 (by simp)
  refine ⟨#[.bool true, slV ⟨none, 0, 0⟩, slV ⟨none, 0, 0⟩], fun w => by kernel_rfl, ?_⟩
  refine new_C q5 7 fun pr q6 m6 br => ?_
  replace m := m.step m6 (by simp)
  replace bt := bt.mv m6 (by simp)
  replace bg := bg.mv m6 (by simp)
  replace bx := bx.mv m6 (by simp)
  replace bn := bn.mv m6 (by simp)
  replace xm := xm.mv m6 (by simp) (by simp)
  have mk : Mk22 q6 7 pr := ⟨_, _, br, rfl⟩
  have hct : (coinT true [] game player bit nonce).1.length = 32 ∧ ∀ x ∈ (coinT true [] game player bit nonce).1, isByte x := someT_tag _ _ _ _ _
  have hcr : (coinT true [] game player bit nonce).2.2 = [] := someT_real _ _ _ _
  have hmt : (moveT22 true [] game number x nonce).1.length = 32 ∧ ∀ y ∈ (moveT22 true [] game number x nonce).1, isByte y := someT_tag _ _ _ _ _
  have hmr : (moveT22 true [] game number x nonce).2.2 = [] := someT_real _ _ _ _
  generalize hcv : coinT true [] game player bit nonce = cv at hct hcr
  generalize hmv : moveT22 true [] game number x nonce = mv at hmt hmr
  have okc : ShTag.ok cv.1 := okTag hct.1 hct.2
  have okm : ShTag.ok mv.1 := okTag hmt.1 hmt.2
  rw [zTag]
  refine loadAgg_whole bg (tagA_size hgb.1) ?_
  refine loadAgg_whole bn (tagA_size hnb.1) ?_
  refine coin_spec (by decide) xm game okg player bit nonce okn fun q7 m7 x7 => ⟨(_, _), rfl, ?_⟩
  rw [hcv] at x7 ⊢
  rw [hcr] at x7
  dsimp only
  replace m := m.step m7 (by simp)
  replace bt := bt.mv m7 (by simp)
  replace bg := bg.mv m7 (by simp)
  replace bx := bx.mv m7 (by simp)
  replace bn := bn.mv m7 (by simp)
  replace mk := mk.mv m7 (by simp)
  refine newStore_C q7 8 (by rw [szTag]; simp [hct.1]) (by rw [szTag]; simp) (fun v hv => oneBy _ v hv) fun pa q8 m8 ba => ?_
  replace m := m.step m8 (by simp)
  replace bt := bt.mv m8 (by simp)
  replace bg := bg.mv m8 (by simp)
  replace bx := bx.mv m8 (by simp)
  replace bn := bn.mv m8 (by simp)
  replace mk := mk.mv m8 (by simp)
  replace x7 := x7.mv m8 (by simp) (by simp)
  refine loadAgg_whole bg (tagA_size hgb.1) ?_
  refine loadAgg_whole bn (tagA_size hnb.1) ?_
  refine ref22Coin_spec mk game okg player bit nonce okn [] fun q9 m9 => ⟨(_, _), rfl, ?_⟩
  rw [hcv]
  dsimp only
  replace m := m.step m9 (by simp)
  replace bt := bt.mv m9 (by simp)
  replace bg := bg.mv m9 (by simp)
  replace bx := bx.mv m9 (by simp)
  replace bn := bn.mv m9 (by simp)
  replace mk := mk.mv m9 (by simp)
  replace x7 := x7.mv m9 (by simp) (by simp)
  replace ba := ba.mv m9 (by simp)
  refine newStore_C q9 9 (by rw [szTag]; simp [hct.1]) (by rw [szTag]; simp) (fun v hv => oneBy _ v hv) fun pb q10 m10 bb => ?_
  replace m := m.step m10 (by simp)
  replace bt := bt.mv m10 (by simp)
  replace bg := bg.mv m10 (by simp)
  replace bx := bx.mv m10 (by simp)
  replace bn := bn.mv m10 (by simp)
  replace mk := mk.mv m10 (by simp)
  replace x7 := x7.mv m10 (by simp) (by simp)
  replace ba := ba.mv m10 (by simp)
  refine loadAgg_whole bg (tagA_size hgb.1) ?_
  refine loadAgg_whole bx (by kernel_rfl) ?_
  refine loadAgg_whole bn (tagA_size hnb.1) ?_
  refine move22_spec (by decide) x7 game okg number x okx nonce okn fun q11 m11 x11 => ⟨(_, _), rfl, ?_⟩
  rw [hmv] at x11 ⊢
  rw [hmr] at x11
  dsimp only
  replace m := m.step m11 (by simp)
  replace bt := bt.mv m11 (by simp)
  replace bg := bg.mv m11 (by simp)
  replace bx := bx.mv m11 (by simp)
  replace bn := bn.mv m11 (by simp)
  replace mk := mk.mv m11 (by simp)
  replace ba := ba.mv m11 (by simp)
  replace bb := bb.mv m11 (by simp)
  refine newStore_C q11 10 (by rw [szTag]; simp [hmt.1]) (by rw [szTag]; simp) (fun v hv => oneBy _ v hv) fun pc q12 m12 bc => ?_
  replace m := m.step m12 (by simp)
  replace bt := bt.mv m12 (by simp)
  replace bg := bg.mv m12 (by simp)
  replace bx := bx.mv m12 (by simp)
  replace bn := bn.mv m12 (by simp)
  replace mk := mk.mv m12 (by simp)
  replace ba := ba.mv m12 (by simp)
  replace bb := bb.mv m12 (by simp)
  replace x11 := x11.mv m12 (by simp) (by simp)
  refine loadAgg_whole bg (tagA_size hgb.1) ?_
  refine loadAgg_whole bx (by kernel_rfl) ?_
  refine loadAgg_whole bn (tagA_size hnb.1) ?_
  refine ref22Move_spec mk game okg number x okx nonce okn [] fun q13 m13 => ⟨(_, _), rfl, ?_⟩
  rw [hmv]
  dsimp only
  replace m := m.step m13 (by simp)
  replace bt := bt.mv m13 (by simp)
  replace bg := bg.mv m13 (by simp)
  replace bx := bx.mv m13 (by simp)
  replace bn := bn.mv m13 (by simp)
  replace ba := ba.mv m13 (by simp)
  replace bb := bb.mv m13 (by simp)
  replace bc := bc.mv m13 (by simp)
  replace x11 := x11.mv m13 (by simp) (by simp)
  refine newStore_C q13 11 (by rw [szTag]; simp [hmt.1]) (by rw [szTag]; simp) (fun v hv => oneBy _ v hv) fun pd q14 m14 bd => ?_
  replace m := m.step m14 (by simp)
  replace bt := bt.mv m14 (by simp)
  replace bg := bg.mv m14 (by simp)
  replace bx := bx.mv m14 (by simp)
  replace bn := bn.mv m14 (by simp)
  replace ba := ba.mv m14 (by simp)
  replace bb := bb.mv m14 (by simp)
  replace bc := bc.mv m14 (by simp)
  replace x11 := x11.mv m14 (by simp) (by simp)
  refine loadAgg_whole ba (tagA_size hct.1) ?_
  refine loadAgg_whole bb (tagA_size hct.1) ?_
  refine tag_neq hct.1 hct.2 hct.1 hct.2 ?_
  rw [if_neg (by simp), if_neg (by simp)]
  refine loadAgg_whole bc (tagA_size hmt.1) ?_
  refine loadAgg_whole bd (tagA_size hmt.1) ?_
  refine tag_neq hmt.1 hmt.2 hmt.1 hmt.2 ?_
  rw [if_neg (by simp), if_neg (by simp)]
  refine loadAgg_whole bt (tagA_size htb.1) ?_
  refine loadAgg_whole ba (tagA_size hct.1) ?_
  refine loadAgg_whole bc (tagA_size hmt.1) ?_
  have te : ∀ u : List Int, tagA u = ⟨ShTag.enc u⟩ := fun u => by rw [encTag]
  have hok : ∀ b ∈ [t, cv.1, mv.1], ShTag.ok b := by
    intro b hb
    simp only [List.mem_cons, List.mem_nil_iff, or_false] at hb
    rcases hb with rfl | rfl | rfl
    · exact okt
    · exact okc
    · exact okm
  refine mkTags_C q14 12 3 [t, cv.1, mv.1] hok rfl (by decide) (by decide) (by simp only [te]; rfl) fun s15 q15 m15 o15 => ?_
  obtain ⟨ts, hts⟩ : ∃ ts : List (List Int), ts = [t, cv.1, mv.1] := ⟨_, rfl⟩
  rw [← hts] at o15 hok
  have htl : ts.length = 3 := by rw [hts]; rfl
  refine loopW_rule (fun st h' => ∃ (i : Nat) (q : GH), i ≤ 3 ∧ st = (i : Int) ∧ h' = q.h ∧ Mv KT22 g.base q ∧ BlkC q 2 pg (tagA game) T.api_Tag ∧ BlkC q 3 px ⟨ShMove.enc x⟩ T.api_Move ∧ BlkC q 4 pn (tagA nonce) T.api_Tag ∧ MakC q 5 6 pm true [] [] ∧ BlkC q 9 pb (tagA cv.1) T.api_Tag ∧ BlkC q 11 pd (tagA mv.1) T.api_Tag ∧ OwnF T.api_Tag ShTag q 12 s15 ts) (fun st => 3 - st.toNat)
    ⟨0, q15, by omega, rfl, rfl, m.step m15 (by simp), bg.mv m15 (by simp), bx.mv m15 (by simp), bn.mv m15 (by simp), x11.mv m15 (by simp) (by simp), bb.mv m15 (by simp), bd.mv m15 (by simp), o15⟩ ?_
  clear m m1 m2 m3 m4 m5 m6 m7 m8 m9 m10 m11 m12 m13 m14 m15 bt bg bx bn ba bb bc bd x7 x11 xm mk br o15
  rintro X _ _ ⟨i, q, hi, rfl, rfl, m, bg, bx, bn, xm, bb, bd, o⟩ hX
  try dsimp only
  by_cases hlt : i < 3
  · rw [if_pos (by simp; omega)]
    have hil : i < ts.length := by omega
    have oki := hok _ (List.getElem_mem hil)
    have hti := okTagB oki
    generalize hui : ts[i] = ti at oki hti
    refine (o.slc rfl (by omega)).idxF rfl szTag (by decide) hil fun b1 o1 c1 _ l1 => ?_
    refine (o.slc rfl (by omega)).idxF rfl szTag (by decide) hil fun b2 o2 c2 _ l2 => ?_
    rw [hui] at c1 c2 l1 l2
    refine loadF (s := ShTag) c1 szTag (by decide) l1 ?_
    refine loadAgg_whole bg (tagA_size hgb.1) ?_
    refine loadAgg_whole bn (tagA_size hnb.1) ?_
    refine loadF (s := ShTag) c2 szTag (by decide) l2 ?_
    refine loadAgg_whole bb (tagA_size hct.1) ?_
    rw [← te]
    refine openCoin_spec (by decide) xm ti oki game okg player bit nonce okn fun q2 m2 x2 => ⟨_, rfl, ?_⟩
    rw [hcv] at x2 ⊢
    rw [hcr] at x2
    replace m := m.step m2 (by simp)
    replace bg := bg.mv m2 (by simp)
    replace bx := bx.mv m2 (by simp)
    replace bn := bn.mv m2 (by simp)
    replace bb := bb.mv m2 (by simp)
    replace bd := bd.mv m2 (by simp)
    replace o := o.mv m2 (by simp)
    refine ⟨stillAgg_whole bb (tagA_size hct.1), ?_, ?_⟩
    · rw [te]
      exact stillF (s := ShTag) (c2.mv m2 (by simp)) szTag (by decide) l2
    refine fits_spec oki hct fun q3 m3 => ⟨_, rfl, ?_⟩
    replace m := m.step m3 (by simp)
    replace bg := bg.mv m3 (by simp)
    replace bx := bx.mv m3 (by simp)
    replace bn := bn.mv m3 (by simp)
    replace bb := bb.mv m3 (by simp)
    replace bd := bd.mv m3 (by simp)
    replace o := o.mv m3 (by simp)
    replace x2 := x2.mv m3 (by simp) (by simp)
    try dsimp only
    rw [if_neg (by simp)]
    refine (o.slc rfl (by omega)).idxF rfl szTag (by decide) hil fun b1 o1 c1 _ l1 => ?_
    refine (o.slc rfl (by omega)).idxF rfl szTag (by decide) hil fun b2 o2 c2 _ l2 => ?_
    rw [hui] at c1 c2 l1 l2
    refine loadF (s := ShTag) c1 szTag (by decide) l1 ?_
    refine loadAgg_whole bg (tagA_size hgb.1) ?_
    refine loadAgg_whole bx (by kernel_rfl) ?_
    refine loadAgg_whole bn (tagA_size hnb.1) ?_
    refine loadF (s := ShTag) c2 szTag (by decide) l2 ?_
    refine loadAgg_whole bd (tagA_size hmt.1) ?_
    rw [← te]
    refine openMove_spec (by decide) x2 ti oki game okg number x okx nonce okn fun q4 m4 x4 => ⟨_, rfl, ?_⟩
    rw [hmv] at x4 ⊢
    rw [hmr] at x4
    replace m := m.step m4 (by simp)
    replace bg := bg.mv m4 (by simp)
    replace bx := bx.mv m4 (by simp)
    replace bn := bn.mv m4 (by simp)
    replace bb := bb.mv m4 (by simp)
    replace bd := bd.mv m4 (by simp)
    replace o := o.mv m4 (by simp)
    refine ⟨stillAgg_whole bd (tagA_size hmt.1), ?_, ?_⟩
    · rw [te]
      exact stillF (s := ShTag) (c2.mv m4 (by simp)) szTag (by decide) l2
    refine fits_spec oki hmt fun q5 m5 => ⟨_, rfl, ?_⟩
    try dsimp only
    rw [if_neg (by simp), wrapSucc (by omega)]
    exact hX _ _ ⟨i + 1, q5, by omega, rfl, rfl, m.step m5 (by simp), bg.mv m5 (by simp), bx.mv m5 (by simp), bn.mv m5 (by simp), x4.mv m5 (by simp) (by simp), bb.mv m5 (by simp), bd.mv m5 (by simp), o.mv m5 (by simp)⟩ (by simp; omega)
  · rw [if_neg (by simp; omega)]
    exact H (g.via q fun _ => 0) (m.via (by simp) _)

end Go.Proofs.YtafjmdeldejonaaGreat
