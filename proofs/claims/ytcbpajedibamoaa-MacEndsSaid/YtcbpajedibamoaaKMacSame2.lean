/-
  Two tags are the same only if every byte is.
-/
import Derived.Test.YtcbpajedibamoaaKMacTells
set_option linter.unusedSimpArgs false
set_option linter.unusedVariables false
namespace Go.Proofs.Ytcbpajedibamoaa
open Go Go.Ev

theorem turnSet {x : List Int} {k : Nat} {t : Int} (h : k < x.length) (hb : ∀ y ∈ x, isByte y) (ht : isByte t) : x = x.set k (turnB t x[k]) ↔ t = 0 := by
  rw [← turnB_same ht (hb _ (List.getElem_mem h))]
  constructor
  · intro e
    have := congrArg (fun l => l[k]?) e
    simp [List.getElem?_eq_getElem h, h] at this
    exact this.symm
  · intro e
    rw [e, List.set_getElem_self]
theorem turnSet_byte {x : List Int} {k : Nat} {t : Int} (h : k < x.length) (hb : ∀ y ∈ x, isByte y) : ∀ y ∈ x.set k (turnB t x[k]), isByte y := by
  intro y hy
  rcases List.mem_or_eq_of_mem_set hy with hy | rfl
  · exact hb y hy
  · exact turnB_byte _ _

abbrev KS : List Nat := [1, 2, 3, 4]

/-- A tag that was turned, held against the first and against the digest. -/
theorem sameTail {g q : GH} {a1 c5 t12 : Nat} {key2 rest3 : Sl} {turn5 : Int} {ks bs x z mac : List Int} (m : Mv KS g.base q)
    (ba : BlkC q 1 a1 (tagA x) T.api_Tag) (bc : BlkC q 3 c5 (tagA z) T.api_Tag) (bt : BlkC q 4 t12 (tagA mac) T.api_Tag)
    (xl : x.length = 32) (xb : ∀ y ∈ x, isByte y) (zl : z.length = 32) (zb : ∀ y ∈ z, isByte y) (ml : mac.length = 32) (mb : ∀ y ∈ mac, isByte y) (hmac : macB ks bs = mac) (hz : x = z ↔ turn5 = 0)
    (hk : RdC 1 q 0 key2 (ks.map byV)) (hkc : key2.n ≤ key2.c) (hkl : ks.length ≤ 700) (hkb : ∀ x ∈ ks, isByte x) (hr : RdC 1 q 0 rest3 (bs.map byV)) (hrc : rest3.n ≤ rest3.c) (hrl : bs.length ≤ 700) (hrb : ∀ x ∈ bs, isByte x)
    {R : Value → Heap → Prop} (H : ∀ g' : GH, Mv [] g g' → R (.bool true) g'.h) :
  loadAggK (sizeOfT Try.prog T.api_Tag) q.h (some ⟨a1, 0, none⟩) (fun (v_25 : Array Value) =>
  loadAggK (sizeOfT Try.prog T.api_Tag) q.h (some ⟨c5, 0, none⟩) (fun (v_26 : Array Value) =>
  callK Try.prog .bool F.mac_Same #[(.agg v_25), (.agg v_26)] (fun (v_27 : Bool) (h : Heap) =>
  if (v_27 == (turn5 == 0)) = true then
  loadAggK (sizeOfT Try.prog T.api_Tag) h (some ⟨c5, 0, none⟩) (fun (v_28 : Array Value) =>
  loadAggK (sizeOfT Try.prog T.api_Tag) h (some ⟨c5, 0, none⟩) (fun (v_29 : Array Value) =>
  loadAggK (sizeOfT Try.prog T.api_Tag) h (some ⟨t12, 0, none⟩) (fun (v_30 : Array Value) =>
  eqK Try.prog (binSem .eql T.api_Tag (.tmp 69) (.tmp 70) (.agg v_29) (.agg v_30)) (fun (v_31 : Bool) =>
  newSlK h 1 #[(.slice rest3.a rest3.n rest3.c)] T.sl_uint8 (fun (v_32 : Sl) (h : Heap) =>
  callK Try.prog (.int .i64) F.mac_Check #[(.slice key2.a key2.n key2.c), (.agg v_28), (.slice v_32.a v_32.n v_32.c)] (fun (v_33 : Int) (h : Heap) =>
  stillAggK (sizeOfT Try.prog T.api_Tag) h (some ⟨t12, 0, none⟩) v_30 ∧
  stillAggK (sizeOfT Try.prog T.api_Tag) h (some ⟨c5, 0, none⟩) v_29 ∧
  if ((v_33 == 0) == v_31) = true then
  loadAggK (sizeOfT Try.prog T.api_Tag) h (some ⟨c5, 0, none⟩) (fun (v_34 : Array Value) =>
  loadAggK (sizeOfT Try.prog T.api_Tag) h (some ⟨c5, 0, none⟩) (fun (v_35 : Array Value) =>
  loadAggK (sizeOfT Try.prog T.api_Tag) h (some ⟨t12, 0, none⟩) (fun (v_36 : Array Value) =>
  eqK Try.prog (binSem .neq T.api_Tag (.tmp 81) (.tmp 82) (.agg v_35) (.agg v_36)) (fun (v_37 : Bool) =>
  newSlK h 1 #[(.slice rest3.a rest3.n rest3.c)] T.sl_uint8 (fun (v_38 : Sl) (h : Heap) =>
  callK Try.prog (.int .i64) F.mac_Check #[(.slice key2.a key2.n key2.c), (.agg v_34), (.slice v_38.a v_38.n v_38.c)] (fun (v_39 : Int) (h : Heap) =>
  stillAggK (sizeOfT Try.prog T.api_Tag) h (some ⟨t12, 0, none⟩) v_36 ∧
  stillAggK (sizeOfT Try.prog T.api_Tag) h (some ⟨c5, 0, none⟩) v_35 ∧
  if ((v_39 == 7) == v_37) = true then
  loadAggK (sizeOfT Try.prog T.api_Tag) h (some ⟨t12, 0, none⟩) (fun (v_40 : Array Value) =>
  newSlK h 1 #[(.slice rest3.a rest3.n rest3.c)] T.sl_uint8 (fun (v_41 : Sl) (h : Heap) =>
  callK Try.prog (.int .i64) F.mac_Check #[(.slice key2.a key2.n key2.c), (.agg v_40), (.slice v_41.a v_41.n v_41.c)] (fun (v_42 : Int) (h : Heap) =>
  R (.bool (v_42 == 0)) h) h))
  else
  R (.bool false) h) h)))))
  else
  R (.bool false) h) h)))))
  else
  R (.bool false) h) q.h)) := by
  have tX := tagA_size xl
  have tZ := tagA_size zl
  have tM := tagA_size ml
  have hf : [bs].flatten = bs := by simp
  have t1 : total [bs] = bs.length := by unfold total; rw [hf]
  refine loadAgg_whole ba tX (loadAgg_whole bc tZ ?_)
  refine Same_spec q x z xl xb zl zb fun q1 m1 => ⟨_, rfl, ?_⟩
  replace m := m.step m1 (by simp)
  replace bc := bc.mv m1 (by simp)
  replace bt := bt.mv m1 (by simp)
  replace hk := hk.mv m1 (by simp)
  replace hr := hr.mv m1 (by simp)
  dsimp only
  rw [if_pos (by by_cases h : x = z <;> simp [h, ← hz])]
  refine loadAgg_whole bc tZ (loadAgg_whole bc tZ (loadAgg_whole bt tM ?_))
  refine tag_eq zl zb ml mb ?_
  refine newSl_C q1 0 rfl fun s2 q2 m2 o2 n2 c2 => ?_
  replace m := m.step m2 (by simp)
  replace bc := bc.mv m2 (by simp)
  replace bt := bt.mv m2 (by simp)
  replace hk := hk.mv m2 (by simp)
  replace hr := hr.mv m2 (by simp)
  refine macCheck_spec q2 key2 s2 ks z [bs] zl zb hk hkc (by omega) hkb (RowsC.one o2.rd hr hrc) (fun xs hx => by simp at hx; subst hx; exact hrb) (by omega) (by simp) fun q3 m3 => ⟨_, rfl, ?_⟩
  rw [hf, hmac]
  replace m := m.step m3 (by simp)
  replace bc := bc.mv m3 (by simp)
  replace bt := bt.mv m3 (by simp)
  replace hk := hk.mv m3 (by simp)
  replace hr := hr.mv m3 (by simp)
  refine ⟨stillAgg_whole bt tM, stillAgg_whole bc tZ, ?_⟩
  rw [if_pos (by by_cases h : mac = z <;> simp [h, Ne.symm, eq_comm])]
  refine loadAgg_whole bc tZ (loadAgg_whole bc tZ (loadAgg_whole bt tM ?_))
  refine tag_neq zl zb ml mb ?_
  refine newSl_C q3 0 rfl fun s4 q4 m4 o4 n4 c4 => ?_
  replace m := m.step m4 (by simp)
  replace bc := bc.mv m4 (by simp)
  replace bt := bt.mv m4 (by simp)
  replace hk := hk.mv m4 (by simp)
  replace hr := hr.mv m4 (by simp)
  refine macCheck_spec q4 key2 s4 ks z [bs] zl zb hk hkc (by omega) hkb (RowsC.one o4.rd hr hrc) (fun xs hx => by simp at hx; subst hx; exact hrb) (by omega) (by simp) fun q5 m5 => ⟨_, rfl, ?_⟩
  rw [hf, hmac]
  replace m := m.step m5 (by simp)
  replace bc := bc.mv m5 (by simp)
  replace bt := bt.mv m5 (by simp)
  replace hk := hk.mv m5 (by simp)
  replace hr := hr.mv m5 (by simp)
  refine ⟨stillAgg_whole bt tM, stillAgg_whole bc tZ, ?_⟩
  rw [if_pos (by by_cases h : mac = z <;> simp [h, Ne.symm, eq_comm])]
  refine loadAgg_whole bt tM ?_
  refine newSl_C q5 0 rfl fun s6 q6 m6 o6 n6 c6 => ?_
  replace m := m.step m6 (by simp)
  replace hk := hk.mv m6 (by simp)
  replace hr := hr.mv m6 (by simp)
  refine macCheck_spec q6 key2 s6 ks mac [bs] ml mb hk hkc (by omega) hkb (RowsC.one o6.rd hr hrc) (fun xs hx => by simp at hx; subst hx; exact hrb) (by omega) (by simp) fun q7 m7 => ⟨_, rfl, ?_⟩
  rw [hf, hmac, if_pos rfl]
  replace m := m.step m7 (by simp)
  exact H (g.via q7 fun _ => 0) (m.via (by simp) _)

theorem MacSame_spec (g : GH) {c d : Nat} (v w : Sl) (ks bs x y : List Int) (at4 turn5 : Int) (xl : x.length = 32) (xb : ∀ v ∈ x, isByte v) (yl : y.length = 32) (yb : ∀ v ∈ y, isByte v) (hat : -9223372036854775808 ≤ at4 ∧ at4 ≤ 9223372036854775807) (htn : isByte turn5)
    (hs : SlC g c (.int .u8) v ks) (hw : SlC g d (.int .u8) w bs) {R : Value → Heap → Prop} (H : ∀ g' : GH, Mv [] g g' → R (.bool true) g'.h) : HC Try.prog F.law03_MacSame #[.agg (tagA x), .agg (tagA y), .slice v.a v.n v.c, .slice w.a w.n w.c, .int .i64 at4, .int .u8 turn5] R g.h := by
  refine law03_MacSame.calls (key2 := v) (rest3 := w) ?_
  unfold law03_MacSame.body
  obtain ⟨hr, hby0⟩ := hs.ints
  obtain ⟨hrw, hbw0⟩ := hw.ints
  have hby := byteInts hby0
  have hbw := byteInts hbw0
  have hn := hs.len
  have hnw := hw.len
  have hcap := hs.cap
  have hcapw := hw.cap
  have hsm := hs.small
  have hsmw := hw.small
  have tX := tagA_size xl
  have tY := tagA_size yl
  have m : Mv KS g.base g.base := Mv.refl _ _
  refine new_C g.base 1 fun a1 q1 m1 ba => ?_
  replace m := m.step m1 (by simp)
  refine new_C q1 2 fun b2 q2 m2 bb => ?_
  replace m := m.step m2 (by simp)
  replace ba := ba.mv m2 (by simp)
  refine awake03_spec q2 fun q3 m3 => ⟨_, rfl, ?_⟩
  replace m := m.step m3 (by simp)
  replace ba := ba.mv m3 (by simp)
  replace bb := bb.mv m3 (by simp)
  dsimp only
  rw [if_neg (by decide), wrapI64 (by omega) (by omega)]
  rcases Nat.lt_or_ge 700 (v.n + w.n) with h7 | h7
  · rw [if_pos (by simp; omega)]
    exact H (g.via q3 fun _ => 0) (m.via (by simp) _)
  rw [if_neg (by simp; omega)]
  refine loadAgg_whole ba tX ?_
  rw [zTag]
  refine new_C q3 3 fun c5 q4 m4 bc => ?_
  replace m := m.step m4 (by simp)
  replace ba := ba.mv m4 (by simp)
  replace bb := bb.mv m4 (by simp)
  refine storeAgg_C bc tX.symm (by rw [szTag]; simp) (fun v hv => oneBy _ v hv) fun q5 m5 bc => ?_
  rw [overA_all (by simp [xl])] at bc
  replace m := m.step m5 (by simp)
  replace ba := ba.mv m5 (by simp)
  replace bb := bb.mv m5 (by simp)
  refine Pick_spec at4 32 hat (by decide) ⟨_, rfl, ?_⟩
  obtain ⟨k, hk, hk2⟩ : ∃ k : Nat, k < 32 ∧ at4 % 32 = (k : Int) := ⟨(at4 % 32).toNat, by omega, by omega⟩
  rw [hk2]
  try dsimp only
  have hkx : k < x.length := by omega
  refine idxArr_N (by kernel_rfl) hk ?_
  rw [Nat.zero_add, loadK_C bc]
  refine ⟨x[k], by simp [List.getElem?_eq_getElem hkx, Kd.inj], ?_⟩
  refine idxArr_N (by kernel_rfl) hk ?_
  rw [Nat.zero_add]
  refine store_C bc (by simp; omega) rfl fun q6 m6 bc => ?_
  have bc' : BlkC q6 3 c5 (tagA (x.set k (turnB turn5 x[k]))) T.api_Tag := by
    have : (tagA x).setIfInBounds k (byV (turnB turn5 x[k])) = tagA (x.set k (turnB turn5 x[k])) := by
      rw [List.setIfInBounds_toArray]
      show _ = (List.map byV (x.set k (turnB turn5 x[k]))).toArray
      rw [List.map_set]
    rw [← this]; exact bc
  have hz := turnSet hkx xb htn
  have zb := turnSet_byte (t := turn5) hkx xb
  have zl : (x.set k (turnB turn5 x[k])).length = 32 := by simp [xl]
  generalize x.set k (turnB turn5 x[k]) = z at bc' hz zb zl
  clear bc
  replace m := m.step m6 (by simp)
  replace ba := ba.mv m6 (by simp)
  replace bb := bb.mv m6 (by simp)
  have hf : [bs].flatten = bs := by simp
  have t1 : total [bs] = bs.length := by unfold total; rw [hf]
  refine newSl_C q6 0 rfl fun s7 q7 m7 o7 n7 c7 => ?_
  replace m := m.step m7 (by simp)
  replace ba := ba.mv m7 (by simp)
  replace bb := bb.mv m7 (by simp)
  replace bc' := bc'.mv m7 (by simp)
  refine macOf_spec q7 v s7 ks [bs] (hr.arg m (by simp)) hcap (by omega) hby (RowsC.one o7.rd (hrw.arg m (by simp)) hcapw) (fun xs hx => by simp at hx; subst hx; exact hbw) (by omega) (by simp) fun q8 m8 => ⟨_, rfl, ?_⟩
  rw [hf]
  generalize hmac : macB ks bs = mac
  have ml : mac.length = 32 := by rw [← hmac]; exact macB_length _ _
  have mb : ∀ x ∈ mac, isByte x := by rw [← hmac]; exact macB_byte _ _
  replace m := m.step m8 (by simp)
  replace ba := ba.mv m8 (by simp)
  replace bb := bb.mv m8 (by simp)
  replace bc' := bc'.mv m8 (by simp)
  try dsimp only
  try rw [zTag]
  refine new_C q8 4 fun t12 q9 m9 bt => ?_
  replace m := m.step m9 (by simp)
  replace ba := ba.mv m9 (by simp)
  replace bb := bb.mv m9 (by simp)
  replace bc' := bc'.mv m9 (by simp)
  refine storeAgg_C bt (tagA_size ml).symm (by rw [szTag]; simp) (fun v hv => oneBy _ v hv) fun q10 m10 bt => ?_
  rw [overA_all (by simp [ml])] at bt
  replace m := m.step m10 (by simp)
  replace ba := ba.mv m10 (by simp)
  replace bb := bb.mv m10 (by simp)
  replace bc' := bc'.mv m10 (by simp)
  refine loadAgg_whole ba tX (loadAgg_whole bb tY (loadAgg_whole ba tX (loadAgg_whole bb tY ?_)))
  refine tag_eq xl xb yl yb ?_
  refine Same_spec q10 x y xl xb yl yb fun q11 m11 => ⟨_, rfl, ?_⟩
  replace m := m.step m11 (by simp)
  replace ba := ba.mv m11 (by simp)
  replace bb := bb.mv m11 (by simp)
  replace bc' := bc'.mv m11 (by simp)
  replace bt := bt.mv m11 (by simp)
  refine ⟨stillAgg_whole bb tY, stillAgg_whole ba tX, ?_⟩
  simp only [beq_self_eq_true, if_true]
  have hyx : ∀ b : Bool, b = (decide (y = x) == decide (x = y)) → b = true := by
    rintro _ rfl
    by_cases h : x = y <;> simp [h, eq_comm]
  have tail := fun (q : GH) (m' : Mv [] q11 q) => sameTail (R := R) (m.step m' (by simp)) (ba.mv m' (by simp)) (bc'.mv m' (by simp)) (bt.mv m' (by simp)) xl xb zl zb ml mb hmac hz (hr.arg (m.step m' (by simp) : Mv KS g.base q) (by simp)) hcap (by omega) hby (hrw.arg (m.step m' (by simp) : Mv KS g.base q) (by simp)) hcapw (by omega) hbw H
  refine ⟨?_, ?_, ?_, ?_⟩
  · refine loadAgg_whole bb tY (loadAgg_whole ba tX (loadAgg_whole ba tX (loadAgg_whole bb tY ?_)))
    refine tag_eq xl xb yl yb ?_
    refine Same_spec q11 y x yl yb xl xb fun q12 m12 => ⟨_, rfl, stillAgg_whole (bb.mv m12 (by simp)) tY, stillAgg_whole (ba.mv m12 (by simp)) tX, ?_⟩
    rw [if_pos (hyx _ rfl)]
    exact tail q12 m12
  · refine loadAgg_whole ba tX (loadAgg_whole bb tY (loadAgg_whole ba tX (loadAgg_whole bb tY ?_)))
    refine tag_eq xl xb yl yb ?_
    refine Same_spec q11 y x yl yb xl xb fun q12 m12 => ⟨_, rfl, stillAgg_whole (bb.mv m12 (by simp)) tY, stillAgg_whole (ba.mv m12 (by simp)) tX, ?_⟩
    rw [if_pos (hyx _ rfl)]
    exact tail q12 m12
  · refine loadAgg_whole ba tX (loadAgg_whole bb tY (loadAgg_whole ba tX (loadAgg_whole bb tY ?_)))
    refine tag_eq xl xb yl yb ?_
    refine Same_spec q11 y x yl yb xl xb fun q12 m12 => ⟨_, rfl, stillAgg_whole (bb.mv m12 (by simp)) tY, ?_⟩
    rw [if_pos (hyx _ rfl)]
    exact tail q12 m12
  · refine loadAgg_whole bb tY (loadAgg_whole bb tY (loadAgg_whole ba tX (loadAgg_whole ba tX ?_)))
    refine tag_eq xl xb yl yb ?_
    refine Same_spec q11 y x yl yb xl xb fun q12 m12 => ⟨_, rfl, stillAgg_whole (ba.mv m12 (by simp)) tX, ?_⟩
    rw [if_pos (hyx _ rfl)]
    exact tail q12 m12

theorem wf_u8' {n : Int} (h : (Lit.int .u8 n).wf = true) : isByte n := by
  simp only [Lit.wf, Bool.and_eq_true, decide_eq_true_eq] at h
  exact h

theorem MacSame_walk {h : Heap} (t : Array Value) (x : List Int) (w2 : Lay h ShTag x t.toList) (t' : Array Value) (y : List Int) (w3 : Lay h ShTag y t'.toList) (a : Option Addr) (la ca : Nat) (ks : List Int) (w : Lay h (.sl (.int .u8)) ks [.slice a la ca]) (b : Option Addr) (lb cb : Nat) (bs : List Int) (w' : Lay h (.sl (.int .u8)) bs [.slice b lb cb])
    (n : Int) (hn : (Lit.int .i64 n).wf = true) (k : Int) (hk : (Lit.int .u8 k).wf = true) :
    HC Try.prog F.law03_MacSame #[.agg t, .agg t', .slice a la ca, .slice b lb cb, .int .i64 n, .int .u8 k] (fun v h' => v = .bool true ∧ Ext h h') h := by
  obtain ⟨rfl, h1, h2⟩ := tagArg (g := ⟨h, fun _ => 0⟩) (c := 0) (w2.arg (Mv.refl [] _) (by simp))
  obtain ⟨rfl, h3, h4⟩ := tagArg (g := ⟨h, fun _ => 0⟩) (c := 0) (w3.arg (Mv.refl [] _) (by simp))
  exact MacSame_spec ⟨h, fun _ => 0⟩ ⟨a, la, ca⟩ ⟨b, lb, cb⟩ ks bs x y n k h1 h2 h3 h4 (wf_i64 hn) (wf_u8' hk) (c := 0) (d := 0) (w.arg (Mv.refl [] _) (by simp)) (w'.arg (Mv.refl [] _) (by simp)) fun g' m => ⟨rfl, m.ext (by simp)⟩

end Go.Proofs.Ytcbpajedibamoaa
