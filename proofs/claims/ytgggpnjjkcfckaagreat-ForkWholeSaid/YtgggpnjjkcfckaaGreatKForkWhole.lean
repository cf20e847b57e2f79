/-
  The statement ForkWhole.
-/
import Derived.Test.YtgggpnjjkcfckaaGreatKWhole21
set_option linter.unusedSimpArgs false
set_option linter.unusedVariables false
namespace Go.Proofs.YtgggpnjjkcfckaaGreat
open Go Go.Ev

set_option maxHeartbeats 1000000 in
theorem law21whole_spec (g : GH) {d : Nat} (game : List Int) (hg : ShTag.ok game) (v : Sl) (l : List EntryT) (hv : SlC g d ShEntry v l) (hl : l.length ≤ 1000) {R : Value → Heap → Prop}
    (H : ∀ g' : GH, Mv [] g g' → R (.bool true) g'.h) : HC Tryz.prog F.law21_whole #[.agg ⟨ShTag.enc game⟩, .slice v.a v.n v.c] R g.h := by
  refine law21_whole.calls (l1 := v) ?_
  unfold law21_whole.body
  have m := Mv.refl [1, 2, 3, 4, 5] g.base
  have lx : SlC g.base 0 ShEntry v l := hv.arg m (by simp)
  refine new_C g.base 1 fun pg q1 m1 b1 => ?_
  replace m := m.step m1 (by simp)
  replace lx := lx.mv m1 (by simp)
  refine LentEntries_C q1 2 v l lx (by omega) fun s2 q2 m2 o2 => ⟨_, rfl, ?_⟩
  replace m := m.step m2 (by simp)
  replace lx := lx.mv m2 (by simp)
  replace b1 := b1.mv m2 (by simp)
  refine loadTagAt (blkCells b1) hg ?_
  refine makNew_spec q2 3 4 true ⟨none, 0, 0⟩ [] (RdC.nil _ _ 0 _ _) (by simp) (by simp) fun pm q3 m3 mk => ⟨_, rfl, ?_⟩
  replace m := m.step m3 (by simp)
  replace lx := lx.mv m3 (by simp)
  replace b1 := b1.mv m3 (by simp)
  replace o2 := o2.mv m3 (by simp)
  refine ⟨stillF (s := ShTag) (blkCells b1) szTag (by decide) (lenTag hg), ?_⟩
  refine whole_spec (by decide) (by decide) mk game hg s2 l (o2.slc rfl (by omega)) (by omega) fun q4 m4 mk => ⟨(((wholeT game l).1 : Int), (wholeT game l).2), rfl, ?_⟩
  replace m := m.step m4 (by simp)
  replace lx := lx.mv m4 (by simp)
  replace b1 := b1.mv m4 (by simp)
  replace o2 := o2.mv m4 (by simp)
  refine loadTagAt (blkCells b1) hg ?_
  refine real21_spec q4 5 fun pr q5 m5 xr => ⟨_, rfl, ?_⟩
  replace m := m.step m5 (by simp)
  replace lx := lx.mv m5 (by simp)
  replace b1 := b1.mv m5 (by simp)
  replace o2 := o2.mv m5 (by simp)
  refine ⟨stillF (s := ShTag) (blkCells b1) szTag (by decide) (lenTag hg), ?_⟩
  refine ref21Whole_spec xr game hg v l lx (by omega) fun q6 m6 => ⟨(((wholeT game l).1 : Int), (wholeT game l).2), rfl, ?_⟩
  replace m := m.step m6 (by simp)
  replace lx := lx.mv m6 (by simp)
  replace o2 := o2.mv m6 (by simp)
  dsimp only
  rw [if_pos (by simp), if_pos (by simp)]
  refine KeptEntries_C s2 v l o2 lx (by omega) fun q7 m7 => ⟨_, rfl, ?_⟩
  exact H (g.via q7 fun _ => 0) ((m.step m7 (by simp)).via (by simp) _)

theorem withBody {x : EntryT} (hx : ShEntry.ok x) {b : BodyT} (hb : ShBody.ok b) : overA ⟨ShEntry.enc x⟩ 65 (ShBody.enc b) = ⟨ShEntry.enc (x.1, x.2.1, x.2.2.1, b, ())⟩ := by
  have e : ∀ u : BodyT, ShEntry.enc (x.1, x.2.1, x.2.2.1, u, ()) = (ShTag.enc x.game ++ ([.int .i64 x.number] ++ ShTag.enc x.ahead)) ++ (ShBody.enc u ++ []) := fun u => by simp [Sh.enc]
  have h := e x.what
  have hx' : x = (x.1, x.2.1, x.2.2.1, x.what, ()) := rfl
  rw [hx', h, e b]
  exact over_at (by simp [lenTag hx.1, lenTag hx.2.2.1]) (by rw [lenBody hb, lenBody hx.2.2.2.1])

set_option maxHeartbeats 2000000 in
theorem ForkWhole_spec (g : GH) {c d : Nat} (game : List Int) (hg : ShTag.ok game) (vb : Sl) (bs : List BodyT) (hvb : SlC g c ShBody vb bs) (n : Int) (hn64 : IntKind.i64.min ≤ n ∧ n ≤ IntKind.i64.max) (e : EntryT) (oke : ShEntry.ok e) (vr : Sl) (raw : List EntryT) (hvr : SlC g d ShEntry vr raw) {R : Value → Heap → Prop}
    (H : ∀ g' : GH, Mv [] g g' → R (.bool true) g'.h) : HC Tryz.prog F.law21_ForkWhole #[.agg ⟨ShTag.enc game⟩, .slice vb.a vb.n vb.c, .int .i64 n, .agg ⟨ShEntry.enc e⟩, .slice vr.a vr.n vr.c] R g.h := by
  refine law21_ForkWhole.calls (bodies1 := vb) (raw4 := vr) ?_
  unfold law21_ForkWhole.body
  have m := Mv.refl [1, 2, 3, 4, 5] g.base
  have fin : ∀ q : GH, Mv [1, 2, 3, 4, 5] g.base q → R (.bool true) q.h := fun q m => H (g.via q fun _ => 0) (m.via (by simp) _)
  have hnb := hvb.len
  have hnr := hvr.len
  have hs1 := hvb.small
  have hs2 := hvr.small
  refine new_C g.base 1 fun pg q1 m1 bg => ?_
  replace m := m.step m1 (by simp)
  refine new_C q1 2 fun pe q2 m2 be => ?_
  replace m := m.step m2 (by simp)
  replace bg := bg.mv m2 (by simp)
  rw [show IntKind.i64.wrap ((vb.n : Int) + (vr.n : Int)) = ((vb.n + vr.n : Nat) : Int) from by rw [wrapI64 (by omega) (by omega)]; omega]
  by_cases hgt : vb.n + vr.n > 200
  · rw [if_pos (by simp; omega)]
    exact awake21_spec q2 fun q' m' => ⟨_, rfl, fin q' (m.step m' (by simp))⟩
  · rw [if_neg (by simp; omega)]
    refine loadTagAt (blkCells bg) hg ?_
    refine linked_spec q2 3 game hg vb bs (hvb.arg m (by simp)) (by omega) fun s3 q3 m3 o3 => ⟨_, rfl, ?_⟩
    replace m := m.step m3 (by simp)
    replace bg := bg.mv m3 (by simp)
    replace be := be.mv m3 (by simp)
    have h3 := o3.len
    have hll := linkedT_length game bs
    dsimp only
    refine buildSl_C (e := T.api_Entry) (sz := 135) q3 4 _ noEntries rfl fun s4 q4 m4 o4 hn4 _ => ?_
    replace m := m.step m4 (by simp)
    replace bg := bg.mv m4 (by simp)
    replace be := be.mv m4 (by simp)
    replace o3 := o3.mv m4 (by simp)
    have o4' : OwnF T.api_Entry ShEntry q4 4 s4 [] := ⟨o4, by simp, hn4⟩
    refine appendEntries_C o4' (o3.slc rfl (by omega)) (by omega) fun s5 q5 m5 o5 => ?_
    replace m := m.step m5 (by simp)
    replace bg := bg.mv m5 (by simp)
    replace be := be.mv m5 (by simp)
    replace o3 := o3.mv m5 (by simp)
    rw [List.nil_append] at o5
    have inRange : 0 < (linkedT game bs).length → ∀ k : Int, 0 ≤ k → k < (s3.n : Int) → k.toNat < (linkedT game bs).length := fun _ k h1 h2 => by omega
    refine joinW_intro (fun _ h' => ∃ (q : GH) (L1 : List EntryT), h' = q.h ∧ Mv [1, 2, 3, 4, 5] g.base q ∧ BlkC q 1 pg ⟨ShTag.enc game⟩ T.api_Tag ∧ BlkC q 2 pe ⟨ShEntry.enc e⟩ T.api_Entry ∧ OwnF T.api_Entry ShEntry q 3 s3 (linkedT game bs) ∧ OwnF T.api_Entry ShEntry q 4 s5 L1 ∧ L1.length = bs.length) ?_ ?_
    · intro J hJ
      by_cases h0 : (s3.n : Int) > 0
      · rw [if_pos (by simpa using h0)]
        refine loadEntryAt (blkCells be) oke ?_
        have hm0 := Int.emod_nonneg n (b := (s3.n : Int)) (by omega)
        have hm1 := Int.emod_lt_of_pos n (b := (s3.n : Int)) (by omega)
        refine Pick_spec n s3.n hn64 (by omega) ⟨_, rfl, ?_⟩
        refine ⟨stillF (s := ShEntry) (blkCells be) szEntry (by decide) (lenEntry oke), ?_⟩
        have hi : n % (s3.n : Int) = ((n % (s3.n : Int)).toNat : Int) := by omega
        rw [hi]
        refine idxStoreF rfl o5 szF_Entry (by decide) (by omega) oke fun q6 m6 o6 => ?_
        exact hJ _ _ ⟨q6, _, rfl, m.step m6 (by simp), bg.mv m6 (by simp), be.mv m6 (by simp), o3.mv m6 (by simp), o6, by rw [List.length_set]; exact hll⟩
      · rw [if_neg (by simpa using h0)]
        exact hJ _ _ ⟨q5, _, rfl, m, bg, be, o3, o5, hll⟩
    · clear m m1 m2 m3 m4 m5 bg be o3 o4 o4' o5
      rintro _ _ ⟨q, L1, rfl, m, bg, be, o3, oL1, hL1⟩
      refine buildSl_C (e := T.api_Entry) (sz := 135) q 5 _ noEntries rfl fun s6 q6 m6 o6 hn6 _ => ?_
      replace m := m.step m6 (by simp)
      replace bg := bg.mv m6 (by simp)
      replace be := be.mv m6 (by simp)
      replace o3 := o3.mv m6 (by simp)
      replace oL1 := oL1.mv m6 (by simp)
      have o6' : OwnF T.api_Entry ShEntry q6 5 s6 [] := ⟨o6, by simp, hn6⟩
      refine appendEntries_C o6' (o3.slc rfl (by omega)) (by omega) fun s7 q7 m7 o7 => ?_
      replace m := m.step m7 (by simp)
      replace bg := bg.mv m7 (by simp)
      replace be := be.mv m7 (by simp)
      replace o3 := o3.mv m7 (by simp)
      replace oL1 := oL1.mv m7 (by simp)
      rw [List.nil_append] at o7
      refine joinW_intro (fun _ h' => ∃ (q : GH) (L2 : List EntryT), h' = q.h ∧ Mv [1, 2, 3, 4, 5] g.base q ∧ BlkC q 1 pg ⟨ShTag.enc game⟩ T.api_Tag ∧ BlkC q 2 pe ⟨ShEntry.enc e⟩ T.api_Entry ∧ OwnF T.api_Entry ShEntry q 3 s3 (linkedT game bs) ∧ OwnF T.api_Entry ShEntry q 4 s5 L1 ∧ OwnF T.api_Entry ShEntry q 5 s7 L2 ∧ L2.length = bs.length) ?_ ?_
      · intro J hJ
        by_cases h0 : (s3.n : Int) > 0
        · rw [if_pos (by simpa using h0)]
          have ee := entryAt oke (blkCells be)
          rw [fldK_some]
          refine loadBodyAt ee.what oke.2.2.2.1 ?_
          have hm0 := Int.emod_nonneg n (b := (s3.n : Int)) (by omega)
          have hm1 := Int.emod_lt_of_pos n (b := (s3.n : Int)) (by omega)
          refine Pick_spec n s3.n hn64 (by omega) ⟨_, rfl, ?_⟩
          refine ⟨stillF (s := ShBody) ee.what szBody (by decide) (lenBody oke.2.2.2.1), ?_⟩
          have hi : n % (s3.n : Int) = ((n % (s3.n : Int)).toNat : Int) := by omega
          rw [hi]
          have hlt : (n % (s3.n : Int)).toNat < (linkedT game bs).length := by omega
          have okx := o7.ok _ (List.getElem_mem hlt)
          refine idxStorePart (y := ((linkedT game bs)[(n % (s3.n : Int)).toNat].1, (linkedT game bs)[(n % (s3.n : Int)).toNat].2.1, (linkedT game bs)[(n % (s3.n : Int)).toNat].2.2.1, e.what, ())) rfl o7 szF_Entry (by decide) hlt ⟨okx.1, okx.2.1, okx.2.2.1, oke.2.2.2.1, trivial⟩ (by rw [szBody]; exact lenBody oke.2.2.2.1) (fun w hw => Sh.enc_one (s := ShBody) rfl w hw) (by rw [szBody]; decide) (withBody okx oke.2.2.2.1) fun q8 m8 o8 => ?_
          exact hJ _ _ ⟨q8, _, rfl, m.step m8 (by simp), bg.mv m8 (by simp), be.mv m8 (by simp), o3.mv m8 (by simp), oL1.mv m8 (by simp), o8, by rw [List.length_set]; exact hll⟩
        · rw [if_neg (by simpa using h0)]
          exact hJ _ _ ⟨q7, _, rfl, m, bg, be, o3, oL1, o7, hll⟩
      · clear m m6 m7 bg be o3 oL1 o6 o6' o7
        rintro _ _ ⟨q, L2, rfl, m, bg, be, o3, oL1, oL2, hL2⟩
        refine loadTagAt (blkCells bg) hg ?_
        refine law21whole_spec q game hg s3 _ (o3.slc rfl (by omega)) (by omega) fun q8 m8 => ⟨true, rfl, ?_⟩
        replace m := m.step m8 (by simp)
        replace bg := bg.mv m8 (by simp)
        replace be := be.mv m8 (by simp)
        replace o3 := o3.mv m8 (by simp)
        replace oL1 := oL1.mv m8 (by simp)
        replace oL2 := oL2.mv m8 (by simp)
        dsimp only
        rw [if_pos rfl]
        refine loadTagAt (blkCells bg) hg ?_
        refine law21whole_spec q8 game hg s5 _ (oL1.slc rfl (by omega)) (by omega) fun q9 m9 => ⟨true, rfl, ?_⟩
        replace m := m.step m9 (by simp)
        replace bg := bg.mv m9 (by simp)
        replace be := be.mv m9 (by simp)
        replace o3 := o3.mv m9 (by simp)
        replace oL2 := oL2.mv m9 (by simp)
        dsimp only
        rw [if_pos rfl]
        refine loadTagAt (blkCells bg) hg ?_
        refine law21whole_spec q9 game hg s7 _ (oL2.slc rfl (by omega)) (by omega) fun q10 m10 => ⟨true, rfl, ?_⟩
        replace m := m.step m10 (by simp)
        replace bg := bg.mv m10 (by simp)
        replace be := be.mv m10 (by simp)
        replace o3 := o3.mv m10 (by simp)
        dsimp only
        rw [if_pos rfl]
        refine loadTagAt (blkCells bg) hg ?_
        refine law21whole_spec q10 game hg vr _ (hvr.arg m (by simp) : SlC q10 0 ShEntry vr raw) (by omega) fun q11 m11 => ⟨true, rfl, ?_⟩
        replace m := m.step m11 (by simp)
        replace be := be.mv m11 (by simp)
        replace o3 := o3.mv m11 (by simp)
        dsimp only
        rw [if_pos rfl, fldK_some]
        have ee := entryAt oke (blkCells be)
        refine loadTagAt ee.game oke.1 ?_
        refine law21whole_spec q11 e.game oke.1 s3 _ (o3.slc rfl (by omega)) (by omega) fun q12 m12 => ⟨true, rfl, ?_⟩
        replace m := m.step m12 (by simp)
        dsimp only
        rw [if_pos rfl]
        exact awake21_spec q12 fun q' m' => ⟨_, rfl, fin q' (m.step m' (by simp))⟩

theorem ForkWhole_walk {h : Heap} (t : Array Value) (z : List Int) (w2 : Lay h ShTag z t.toList) (a : Option Addr) (la ca : Nat) (x : List BodyT) (w : Lay h (.sl ShBody) x [.slice a la ca]) (n : Int) (hn : (Lit.int IntKind.i64 n).wf = true) (ec : Array Value) (e : EntryT) (we : Lay h ShEntry e ec.toList) (b : Option Addr) (lb cb : Nat) (y : List EntryT) (w' : Lay h (.sl ShEntry) y [.slice b lb cb]) :
    HC Tryz.prog F.law21_ForkWhole #[.agg t, .slice a la ca, .int .i64 n, .agg ec, .slice b lb cb] (fun v h' => v = .bool true ∧ Ext h h') h := by
  obtain ⟨t⟩ := t
  obtain ⟨ec⟩ := ec
  obtain ⟨rfl, ok⟩ := LayC.enc (s := ShTag) rfl (w2.arg (Mv.refl [] ⟨h, fun _ => 0⟩) (by simp))
  obtain ⟨rfl, oke⟩ := LayC.enc (s := ShEntry) rfl (we.arg (Mv.refl [] ⟨h, fun _ => 0⟩) (by simp))
  exact ForkWhole_spec ⟨h, fun _ => 0⟩ z ok ⟨a, la, ca⟩ x (c := 0) (w.arg (Mv.refl [] _) (by simp)) n (by simpa [Lit.wf] using hn) e oke ⟨b, lb, cb⟩ y (d := 0) (w'.arg (Mv.refl [] _) (by simp)) fun g' m => ⟨rfl, m.ext (by simp)⟩

end Go.Proofs.YtgggpnjjkcfckaaGreat
