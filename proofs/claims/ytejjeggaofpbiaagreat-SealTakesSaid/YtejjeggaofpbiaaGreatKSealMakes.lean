/-
  The statement SealMakes.
-/
import Derived.Test.YtejjeggaofpbiaaGreatKSeal
set_option linter.unusedSimpArgs false
set_option linter.unusedVariables false
namespace Go.Proofs.YtejjeggaofpbiaaGreat
open Go Go.Ev

theorem moveT22_real (A : List ShThing.T) (game : List Int) (number : Int) (x : MoveT) (nonce : List Int) : (moveT22 true A game number x nonce).1 = (moveT22 true [] game number x nonce).1 ∧ (moveT22 true A game number x nonce).2.1 = (moveT22 true [] game number x nonce).2.1 ∧ (moveT22 true A game number x nonce).2.2 = A := by
  unfold moveT22 someT coverT sum2
  split
  · split <;> exact ⟨rfl, rfl, rfl⟩
  · exact ⟨rfl, rfl, rfl⟩
theorem bldBody0 (w : World) : (Instr.build T.api_Body #[]).run Tryz.prog w = .ok (.agg ⟨ShBody.enc body0⟩) w := by kernel_rfl
theorem bldMk24 (w : World) : (Instr.build T.zugzwangref04_Maker #[(0, .bool true)]).run Tryz.prog w = .ok (.agg #[.bool true, .slice none 0 0, .slice none 0 0]) w := by kernel_rfl

set_option maxHeartbeats 1000000 in
theorem ref24Make_spec {g : GH} {c pm : Nat} (xm : Mk22 g c pm) (game : List Int) (okg : ShTag.ok game) (number : Int) (x : MoveT) (okx : ShMove.ok x) (nonce : List Int) (okn : ShTag.ok nonce) {R : Value → Heap → Prop}
    (H : ∀ g' : GH, Mv [] g g' → R (.tuple #[.agg ⟨ShBody.enc (makeT24 true [] game number x nonce).1⟩, .agg ⟨ShBody.enc (makeT24 true [] game number x nonce).2.1⟩, .int .i64 (makeT24 true [] game number x nonce).2.2.1]) g'.h) :
    HC Tryz.prog F.ref24_Make #[.pointer (some ⟨pm, 0, none⟩), .agg (tagA game), .int .i64 number, .agg ⟨ShMove.enc x⟩, .agg (tagA nonce)] R g.h := by
  refine ref24_Make.calls ?_
  unfold ref24_Make.body
  have hgb := okTagB okg
  have hnb := okTagB okn
  obtain ⟨y, hy, hyn⟩ := fresh_exists g [c]
  obtain ⟨y2, hy2, hyn2⟩ := fresh_exists g [c, y]
  obtain ⟨y3, hy3, hyn3⟩ := fresh_exists g [c, y, y2]
  simp only [List.mem_cons, List.mem_nil_iff, or_false, not_or] at hyn hyn2 hyn3
  have m := Mv.refl [y, y2, y3] g
  have hre : ∀ j ∈ [y, y2, y3], j ∈ ([] : List Nat) ∨ Fresh g j := by
    intro j hj
    simp only [List.mem_cons, List.mem_nil_iff, or_false] at hj
    rcases hj with rfl | rfl | rfl
    · exact .inr hy
    · exact .inr hy2
    · exact .inr hy3
  refine new_C g y fun pg q1 m1 bg => ?_
  refine new_C q1 y fun px q2 m2 bx => ?_
  refine new_C q2 y fun pn q3 m3 bn => ?_
  rw [zBody]
  refine new_C q3 y2 fun ps q4 m4 bs => ?_
  refine new_C q4 y3 fun po q5 m5 bo => ?_
  have e15 := (((m1.step m2 (L := []) (by simp)).step m3 (by simp)).step m4 (by simp)).step m5 (by simp)
  replace m := m.step e15 (by simp)
  replace xm := xm.mv e15 (by simp)
  replace bg := (((bg.mv m2 (by simp)).mv m3 (by simp)).mv m4 (by simp)).mv m5 (by simp)
  replace bx := ((bx.mv m3 (by simp)).mv m4 (by simp)).mv m5 (by simp)
  replace bn := (bn.mv m4 (by simp)).mv m5 (by simp)
  replace bs := bs.mv m5 (by simp)
  refine loadAgg_whole bg (tagA_size hgb.1) ?_
  refine loadMoveAt (blkCells bx) ?_
  refine loadAgg_whole bn (tagA_size hnb.1) ?_
  refine ref22Move_spec xm game okg number x okx nonce okn [] fun q6 m6 => ⟨(_, _), rfl, ?_⟩
  replace m := m.step m6 (by simp)
  replace bx := bx.mv m6 (by simp)
  replace bn := bn.mv m6 (by simp)
  replace bs := bs.mv m6 (by simp)
  replace bo := bo.mv m6 (by simp)
  try dsimp only
  have okt := moveT22_tag true [] game number x nonce
  unfold makeT24 at H
  generalize moveT22 true [] game number x nonce = mt at okt H
  have htb := okTagB okt
  rw [zTag]
  refine newStore_C q6 y (by rw [szTag]; simp [htb.1]) (by rw [szTag]; simp) (fun v hv => oneBy _ v hv) fun pt q7 m7 bt => ?_
  replace m := m.step m7 (by simp)
  replace bx := bx.mv m7 (by simp)
  replace bn := bn.mv m7 (by simp)
  replace bs := bs.mv m7 (by simp)
  replace bo := bo.mv m7 (by simp)
  have lb0 : (⟨ShBody.enc body0⟩ : Array Value).size = 70 := by simpa using lenBody okBody0
  by_cases h0 : mt.2.1 = 0
  · rw [if_neg (by simpa using h0)]
    rw [if_pos h0] at H
    refine loadAgg_whole bt (tagA_size htb.1) ?_
    refine ⟨_, bldSeal24 _ okt, ?_⟩
    refine loadMoveAt (blkCells bx) ?_
    refine loadAgg_whole bn (tagA_size hnb.1) ?_
    refine ⟨_, bldOpen24 x nonce okn, ?_⟩
    have l1 : (⟨ShBody.enc (sealB24 mt.1)⟩ : Array Value).size = 70 := by simpa using lenBody (okSealB okt)
    have l2 : (⟨ShBody.enc (openB24 x nonce)⟩ : Array Value).size = 70 := by simpa using lenBody (okOpenB okx okn)
    refine storeAgg_C bs (by rw [szBody]; exact l1) (by rw [szBody, lb0]; decide) oneBody fun q8 m8 b8 => ?_
    rw [overA_all (by rw [lb0]; simpa using l1)] at b8
    replace m := m.step m8 (by simp)
    refine ⟨stillAgg_whole (bn.mv m8 (by simp [Ne.symm hyn2.2])) (tagA_size hnb.1), loadMoveAt (blkCells (bx.mv m8 (by simp [Ne.symm hyn2.2]))) rfl, ?_⟩
    refine storeAgg_C (bo.mv m8 (by simp [hyn3.2.2])) (by rw [szBody]; exact l2) (by rw [szBody, lb0]; decide) oneBody fun q9 m9 b9 => ?_
    rw [overA_all (by rw [lb0]; simpa using l2)] at b9
    replace m := m.step m9 (by simp)
    refine loadAt_agg (dBody _) ?_
    refine loadBodyAt (blkCells (b8.mv m9 (by simp [Ne.symm hyn3.2.2]))) (okSealB okt) ?_
    refine loadAt_agg (dBody _) ?_
    refine loadBodyAt (blkCells b9) (okOpenB okx okn) ?_
    exact H (g.via q9 id) (m.re id hre)
  · rw [if_pos (by simpa using h0)]
    rw [if_neg h0] at H
    refine ⟨_, bldBody0, ?_⟩
    refine ⟨_, bldBody0, ?_⟩
    refine storeAgg_C bs (by rw [szBody]; exact lb0) (by rw [szBody, lb0]; decide) oneBody fun q8 m8 b8 => ?_
    rw [overA_all (by simp)] at b8
    replace m := m.step m8 (by simp)
    have bo8 := bo.mv m8 (by simp [hyn3.2.2])
    refine storeAgg_C bo8 (by rw [szBody]; exact lb0) (by rw [szBody, lb0]; decide) oneBody fun q9 m9 b9 => ?_
    rw [overA_all (by simp)] at b9
    replace m := m.step m9 (by simp)
    refine loadAt_agg (dBody _) ?_
    refine loadBodyAt (blkCells (b8.mv m9 (by simp [Ne.symm hyn3.2.2]))) okBody0 ?_
    refine loadAt_agg (dBody _) ?_
    refine loadBodyAt (blkCells b9) okBody0 ?_
    exact H (g.via q9 id) (m.re id hre)

set_option maxHeartbeats 4000000 in
set_option maxRecDepth 20000 in
theorem SealMakes_spec (g : GH) (game : List Int) (okg : ShTag.ok game) (number : Int) (x : MoveT) (okx : ShMove.ok x) (nonce : List Int) (okn : ShTag.ok nonce) {R : Value → Heap → Prop} (H : ∀ g' : GH, Mv [] g g' → R (.bool true) g'.h) :
    HC Tryz.prog F.law24_SealMakes #[.agg (tagA game), .int .i64 number, .agg ⟨ShMove.enc x⟩, .agg (tagA nonce)] R g.h := by
  refine law24_SealMakes.calls ?_
  unfold law24_SealMakes.body
  have hgb := okTagB okg
  have hnb := okTagB okn
  have m := Mv.refl [1, 2, 3, 4, 5, 6, 7] g.base
  refine new_C g.base 3 fun pg q1 m1 bg => ?_
  refine new_C q1 3 fun px q2 m2 bx => ?_
  refine new_C q2 3 fun pn q3 m3 bn => ?_
  have e13 := (m1.step m2 (L := []) (by simp)).step m3 (by simp)
  replace m := m.step e13 (by simp)
  replace bg := (bg.mv m2 (by simp)).mv m3 (by simp)
  replace bx := bx.mv m3 (by simp)
  have okm := makeT24_ok (real := true) (A := []) (game := game) (number := number) okx okn
  have lb0 : (⟨ShBody.enc body0⟩ : Array Value).size = 70 := by simpa using lenBody okBody0
  refine joinW_intro (fun s h' => ∃ (q : GH) (pa pb : Nat) (ca cb : Nat), s = (some ⟨pa, 0, none⟩, some ⟨pb, 0, none⟩, (makeT24 true [] game number x nonce).2.2.1) ∧ h' = q.h ∧ Mv [1, 2, 3, 4, 5, 6, 7] g.base q ∧ BlkC q 3 pg (tagA game) T.api_Tag ∧ BlkC q 3 px ⟨ShMove.enc x⟩ T.api_Move ∧ BlkC q 3 pn (tagA nonce) T.api_Tag ∧
      BlkC q ca pa ⟨ShBody.enc (makeT24 true [] game number x nonce).1⟩ T.api_Body ∧ BlkC q cb pb ⟨ShBody.enc (makeT24 true [] game number x nonce).2.1⟩ T.api_Body ∧ (ca = 4 ∨ ca = 5) ∧ (cb = 4 ∨ cb = 5)) ?_ ?_
  · intro J hJ
    refine loadAgg_whole bg (tagA_size hgb.1) ?_
    refine loadMoveAt (blkCells bx) ?_
    refine loadAgg_whole bn (tagA_size hnb.1) ?_
    rw [zBody]
    generalize hmk : makeT24 true [] game number x nonce = mk at okm hJ
    have l1 : (⟨ShBody.enc mk.1⟩ : Array Value).size = 70 := by simpa using lenBody okm.1
    have l2 : (⟨ShBody.enc mk.2.1⟩ : Array Value).size = 70 := by simpa using lenBody okm.2
    obtain ⟨S, hS⟩ : ∃ S : Option (Nat × Bool) → Option Nat → Option Nat → GH → Prop, ∀ n o1 o2 q, S n o1 o2 q ↔ (Mv [1, 2, 3, 4, 5, 6, 7] g.base q ∧ (BlkC q 3 pg (tagA game) T.api_Tag ∧ BlkC q 3 px ⟨ShMove.enc x⟩ T.api_Move ∧ BlkC q 3 pn (tagA nonce) T.api_Tag) ∧ (∀ p, n = some (p, false) → MakC q 1 2 p true [] []) ∧
      (∀ p, o1 = some p → BlkC q 4 p ⟨ShBody.enc body0⟩ T.api_Body) ∧ (∀ p, o2 = some p → BlkC q 5 p ⟨ShBody.enc body0⟩ T.api_Body)) := ⟨fun n o1 o2 q => _, fun _ _ _ _ => Iff.rfl⟩
    have tri : ∀ {K : List Nat} {q q' : GH}, Mv K q q' → 3 ∉ K → (BlkC q 3 pg (tagA game) T.api_Tag ∧ BlkC q 3 px ⟨ShMove.enc x⟩ T.api_Move ∧ BlkC q 3 pn (tagA nonce) T.api_Tag) → (BlkC q' 3 pg (tagA game) T.api_Tag ∧ BlkC q' 3 px ⟨ShMove.enc x⟩ T.api_Move ∧ BlkC q' 3 pn (tagA nonce) T.api_Tag) :=
      fun e hk b => ⟨b.1.mv e hk, b.2.1.mv e hk, b.2.2.mv e hk⟩
    have sN1 : ∀ {n : Option (Nat × Bool)} {q : GH} {K : Option Addr → Heap → Prop}, S n none none q → (∀ (p : Nat) (q' : GH), S n (some p) none q' → K (some ⟨p, 0, none⟩) q'.h) → newK q.h ⟨ShBody.enc body0⟩ T.api_Body K := by
      intro n q K s h
      obtain ⟨m, b3, xm, f1, f2⟩ := (hS _ _ _ _).1 s
      exact new_C q 4 fun p q' e b => h p q' ((hS _ _ _ _).2 ⟨m.step e (by simp), tri e (by simp) b3, fun p' h' => (xm p' h').mv e (by simp) (by simp), fun p' h' => by cases h'; exact b, fun p' h' => by cases h'⟩)
    have sN2 : ∀ {n : Option (Nat × Bool)} {p1 : Nat} {q : GH} {K : Option Addr → Heap → Prop}, S n (some p1) none q → (∀ (p : Nat) (q' : GH), S n (some p1) (some p) q' → K (some ⟨p, 0, none⟩) q'.h) → newK q.h ⟨ShBody.enc body0⟩ T.api_Body K := by
      intro n p1 q K s h
      obtain ⟨m, b3, xm, f1, f2⟩ := (hS _ _ _ _).1 s
      exact new_C q 5 fun p q' e b => h p q' ((hS _ _ _ _).2 ⟨m.step e (by simp), tri e (by simp) b3, fun p' h' => (xm p' h').mv e (by simp) (by simp), fun p' h' => (f1 p' h').mv e (by simp), fun p' h' => by cases h'; exact b⟩)
    have sD : ∀ {o1 o2 : Option Nat} {q : GH} {K : Option Addr → Heap → Prop}, S none o1 o2 q → (∀ (p : Nat) (q' : GH), S (some (p, false)) o1 o2 q' → K (some ⟨p, 0, none⟩) q'.h) → callK Tryz.prog .ptr F.tags_New #[.bool true, .slice none 0 0] K q.h := by
      intro o1 o2 q K s h
      obtain ⟨m, b3, xm, f1, f2⟩ := (hS _ _ _ _).1 s
      refine makNew_spec q 1 2 true ⟨none, 0, 0⟩ [] (RdC.nil _ _ 0 _ _) (by simp) (by simp) fun p q' e xm' => ⟨_, rfl, ?_⟩
      exact h p q' ((hS _ _ _ _).2 ⟨m.step e (by simp), tri e (by simp) b3, fun p' h' => by cases h'; exact xm', fun p' h' => (f1 p' h').mv e (by simp), fun p' h' => (f2 p' h').mv e (by simp)⟩)
    have sM : ∀ {p : Nat} {o1 o2 : Option Nat} {q : GH} {K : Array Value × Array Value × Int → Heap → Prop}, S (some (p, false)) o1 o2 q → (∀ q' : GH, S (some (p, true)) o1 o2 q' → K (⟨ShBody.enc mk.1⟩, ⟨ShBody.enc mk.2.1⟩, mk.2.2.1) q'.h) →
        callK Tryz.prog (Kd.trip .agg .agg (.int .i64)) F.seal_Make #[.pointer (some ⟨p, 0, none⟩), .agg (tagA game), .int .i64 number, .agg ⟨ShMove.enc x⟩, .agg (tagA nonce)] K q.h := by
      intro p o1 o2 q K s h
      obtain ⟨m, b3, xm, f1, f2⟩ := (hS _ _ _ _).1 s
      refine sealMake_spec (by decide) (xm p rfl) game okg number x okx nonce okn fun q' e xm' => ⟨(_, _, _), rfl, ?_⟩
      rw [hmk]
      exact h q' ((hS _ _ _ _).2 ⟨m.step e (by simp), tri e (by simp) b3, fun p' h' => (by cases h'), fun p' h' => (f1 p' h').mv e (by simp), fun p' h' => (f2 p' h').mv e (by simp)⟩)
    have st1 : ∀ {n : Option (Nat × Bool)} {o1 o2 : Option Nat} {q : GH}, S n o1 o2 q → stillAggK (sizeOfT Tryz.prog T.api_Move) q.h (some ⟨px, 0, none⟩) ⟨ShMove.enc x⟩ := by
      intro n o1 o2 q s
      obtain ⟨m, b3, xm, f1, f2⟩ := (hS _ _ _ _).1 s
      exact loadMoveAt (blkCells b3.2.1) rfl
    have st2 : ∀ {n : Option (Nat × Bool)} {o1 o2 : Option Nat} {q : GH}, S n o1 o2 q → stillAggK (sizeOfT Tryz.prog T.api_Tag) q.h (some ⟨pg, 0, none⟩) (tagA game) := by
      intro n o1 o2 q s
      obtain ⟨m, b3, xm, f1, f2⟩ := (hS _ _ _ _).1 s
      exact stillAgg_whole b3.1 (tagA_size hgb.1)
    have st3 : ∀ {n : Option (Nat × Bool)} {o1 o2 : Option Nat} {q : GH}, S n o1 o2 q → stillAggK (sizeOfT Tryz.prog T.api_Tag) q.h (some ⟨pn, 0, none⟩) (tagA nonce) := by
      intro n o1 o2 q s
      obtain ⟨m, b3, xm, f1, f2⟩ := (hS _ _ _ _).1 s
      exact stillAgg_whole b3.2.2 (tagA_size hnb.1)
    have fin1 : ∀ {p p1 p2 : Nat} {q : GH}, S (some (p, true)) (some p1) (some p2) q → storeAggK (sizeOfT Tryz.prog T.api_Body) q.h (some ⟨p1, 0, none⟩) ⟨ShBody.enc mk.1⟩ (fun h => storeAggK (sizeOfT Tryz.prog T.api_Body) h (some ⟨p2, 0, none⟩) ⟨ShBody.enc mk.2.1⟩ (fun h => J (some ⟨p1, 0, none⟩, some ⟨p2, 0, none⟩, mk.2.2.1) h)) := by
      intro p p1 p2 q s
      obtain ⟨m, b3, xm, f1, f2⟩ := (hS _ _ _ _).1 s
      refine storeAgg_C (f1 p1 rfl) (by rw [szBody]; exact l1) (by rw [szBody, lb0]; decide) oneBody fun q8 m8 b8 => ?_
      rw [overA_all (by rw [lb0]; simpa using l1)] at b8
      refine storeAgg_C ((f2 p2 rfl).mv m8 (by simp)) (by rw [szBody]; exact l2) (by rw [szBody, lb0]; decide) oneBody fun q9 m9 b9 => ?_
      rw [overA_all (by rw [lb0]; simpa using l2)] at b9
      have b3' := tri m9 (by simp) (tri m8 (by simp) b3)
      exact hJ _ _ ⟨q9, p1, p2, 4, 5, rfl, rfl, (m.step m8 (by simp)).step m9 (by simp), b3'.1, b3'.2.1, b3'.2.2, b8.mv m9 (by simp), b9, by simp, by simp⟩
    have fin2 : ∀ {p p1 p2 : Nat} {q : GH}, S (some (p, true)) (some p1) (some p2) q → storeAggK (sizeOfT Tryz.prog T.api_Body) q.h (some ⟨p2, 0, none⟩) ⟨ShBody.enc mk.1⟩ (fun h => storeAggK (sizeOfT Tryz.prog T.api_Body) h (some ⟨p1, 0, none⟩) ⟨ShBody.enc mk.2.1⟩ (fun h => J (some ⟨p2, 0, none⟩, some ⟨p1, 0, none⟩, mk.2.2.1) h)) := by
      intro p p1 p2 q s
      obtain ⟨m, b3, xm, f1, f2⟩ := (hS _ _ _ _).1 s
      refine storeAgg_C (f2 p2 rfl) (by rw [szBody]; exact l1) (by rw [szBody, lb0]; decide) oneBody fun q8 m8 b8 => ?_
      rw [overA_all (by rw [lb0]; simpa using l1)] at b8
      refine storeAgg_C ((f1 p1 rfl).mv m8 (by simp)) (by rw [szBody]; exact l2) (by rw [szBody, lb0]; decide) oneBody fun q9 m9 b9 => ?_
      rw [overA_all (by rw [lb0]; simpa using l2)] at b9
      have b3' := tri m9 (by simp) (tri m8 (by simp) b3)
      exact hJ _ _ ⟨q9, p2, p1, 5, 4, rfl, rfl, (m.step m8 (by simp)).step m9 (by simp), b3'.1, b3'.2.1, b3'.2.2, b8.mv m9 (by simp), b9, by simp, by simp⟩
    have st : S none none none q3 := (hS _ _ _ _).2 ⟨m, ⟨bg, bx, bn⟩, fun _ h => (by cases h), fun _ h => (by cases h), fun _ h => (by cases h)⟩
    clear hS hJ m bx bg bn
    repeat' (first
      | with_reducible exact fin1 st
      | with_reducible exact fin2 st
      | with_reducible exact st1 st
      | with_reducible exact st2 st
      | with_reducible exact st3 st
      | (with_reducible refine sD st ?_; intro p0 q' st; try dsimp only)
      | (with_reducible refine sM st ?_; intro q' st; try dsimp only)
      | (with_reducible refine sN2 st ?_; intro p' q' st; try dsimp only)
      | (with_reducible refine sN1 st ?_; intro p' q' st; try dsimp only)
      | with_reducible refine And.intro ?_ ?_)
  rintro _ _ ⟨q4, pa, pb, ca, cb, rfl, rfl, m, bg, bx, bn, ba, bb, hca, hcb⟩
  try dsimp only
  refine ⟨_, bldMk24, ?_⟩
  refine new_C q4 6 fun pm q5 m5 bm => ?_
  replace m := m.step m5 (by simp)
  have mk : Mk22 q5 6 pm := ⟨_, _, bm, rfl⟩
  refine loadAgg_whole (bg.mv m5 (by simp)) (tagA_size hgb.1) ?_
  refine loadMoveAt (blkCells (bx.mv m5 (by simp))) ?_
  refine loadAgg_whole (bn.mv m5 (by simp)) (tagA_size hnb.1) ?_
  refine ref24Make_spec mk game okg number x okx nonce okn fun q6 m6 => ⟨(_, _, _), rfl, ?_⟩
  replace m := m.step m6 (by simp)
  replace ba := (ba.mv m5 (by simp)).mv m6 (by simp)
  replace bb := (bb.mv m5 (by simp)).mv m6 (by simp)
  try dsimp only
  generalize makeT24 true [] game number x nonce = mk at okm ba bb
  have l1 : (⟨ShBody.enc mk.1⟩ : Array Value).size = 70 := by simpa using lenBody okm.1
  have l2 : (⟨ShBody.enc mk.2.1⟩ : Array Value).size = 70 := by simpa using lenBody okm.2
  rw [zBody]
  refine new_C q6 7 fun pc q7 m7 bc => ?_
  refine new_C q7 1 fun pd q8 m8 bd => ?_
  refine storeAgg_C (bc.mv m8 (by simp)) (by rw [szBody]; exact l1) (by rw [szBody, lb0]; decide) oneBody fun q9 m9 bc => ?_
  rw [overA_all (by rw [lb0]; simpa using l1)] at bc
  refine storeAgg_C (bd.mv m9 (by simp)) (by rw [szBody]; exact l2) (by rw [szBody, lb0]; decide) oneBody fun q10 m10 bd => ?_
  rw [overA_all (by rw [lb0]; simpa using l2)] at bd
  replace m := (((m.step m7 (by simp)).step m8 (by simp)).step m9 (by simp)).step m10 (by simp)
  replace ba := (((ba.mv m7 (by simp)).mv m8 (by simp)).mv m9 (by rcases hca with rfl | rfl <;> simp)).mv m10 (by rcases hca with rfl | rfl <;> simp)
  replace bb := (((bb.mv m7 (by simp)).mv m8 (by simp)).mv m9 (by rcases hcb with rfl | rfl <;> simp)).mv m10 (by rcases hcb with rfl | rfl <;> simp)
  replace bc := bc.mv m10 (by simp)
  refine loadBodyAt (blkCells ba) okm.1 ?_
  refine loadBodyAt (blkCells bc) okm.1 ?_
  refine eqBody_F okm.1 okm.1 ?_
  rw [if_pos (by simp)]
  refine loadBodyAt (blkCells bb) okm.2 ?_
  refine loadBodyAt (blkCells bd) okm.2 ?_
  refine eqBody_F okm.2 okm.2 ?_
  rw [if_pos (by simp), if_pos (by simp)]
  refine awake24_spec q10 fun q11 m11 => ⟨_, rfl, ?_⟩
  exact H (g.via q11 fun _ => 0) ((m.step m11 (by simp)).via (by simp) _)

theorem SealMakes_walk {h : Heap} (gm : Array Value) (z : List Int) (w1 : Lay h ShTag z gm.toList) (number : Int) (hn : (Lit.int IntKind.i64 number).wf = true) (cx : Array Value) (x : MoveT) (w2 : Lay h ShMove x cx.toList) (cn : Array Value) (y : List Int) (w3 : Lay h ShTag y cn.toList) :
    HC Tryz.prog F.law24_SealMakes #[.agg gm, .int .i64 number, .agg cx, .agg cn] (fun v h' => v = .bool true ∧ Ext h h') h := by
  obtain ⟨gm⟩ := gm
  obtain ⟨cx⟩ := cx
  obtain ⟨cn⟩ := cn
  obtain ⟨rfl, ok1⟩ := LayC.enc (s := ShTag) rfl (w1.arg (Mv.refl [] ⟨h, fun _ => 0⟩) (by simp))
  obtain ⟨rfl, ok2⟩ := LayC.enc (s := ShMove) rfl (w2.arg (Mv.refl [] ⟨h, fun _ => 0⟩) (by simp))
  obtain ⟨rfl, ok3⟩ := LayC.enc (s := ShTag) rfl (w3.arg (Mv.refl [] ⟨h, fun _ => 0⟩) (by simp))
  have te : ∀ u : List Int, (⟨ShTag.enc u⟩ : Array Value) = tagA u := fun u => by rw [encTag]
  rw [te, te]
  exact SealMakes_spec ⟨h, fun _ => 0⟩ z ok1 number x ok2 y ok3 fun g' m => ⟨rfl, m.ext (by simp)⟩

end Go.Proofs.YtejjeggaofpbiaaGreat
