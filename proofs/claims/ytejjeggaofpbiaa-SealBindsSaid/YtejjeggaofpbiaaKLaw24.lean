/-
  The chapter's example.
-/
import Derived.Test.YtejjeggaofpbiaaKSeals
set_option linter.unusedSimpArgs false
set_option linter.unusedVariables false
namespace Go.Proofs.Ytejjeggaofpbiaa
open Go Go.Ev

theorem bldEntryB (b : BodyT) (ok : ShBody.ok b) (w : World) : (Instr.build T.api_Entry #[(3, .agg ⟨ShBody.enc b⟩)]).run Try.prog w = .ok (.agg ⟨ShEntry.enc (zero32, 0, zero32, b, ())⟩) w := by
  have h := build_segs (P := Try.prog) (t := T.api_Entry) (fs := structFs Try.prog T.api_Entry) (parts := #[(3, .agg ⟨ShBody.enc b⟩)]) [ShTag.enc zero32, [.int .i64 0], ShTag.enc zero32, ShBody.enc body0] (by kernel_rfl) (fun w => by kernel_rfl) (fun w => by kernel_rfl) (fun p hp => by
    simp only [List.mem_cons, List.mem_nil_iff, or_false] at hp
    subst hp
    exact ⟨_, rfl, by show (ShBody.enc b).length = _; rw [lenBody ok, lenBody okBody0]⟩) w
  rw [h]
  simp [Value.cells, Sh.enc]
theorem bldEntryNB (n : Int) (b : BodyT) (ok : ShBody.ok b) (w : World) : (Instr.build T.api_Entry #[(1, .int .i64 n), (3, .agg ⟨ShBody.enc b⟩)]).run Try.prog w = .ok (.agg ⟨ShEntry.enc (zero32, n, zero32, b, ())⟩) w := by
  have h := build_segs (P := Try.prog) (t := T.api_Entry) (fs := structFs Try.prog T.api_Entry) (parts := #[(1, .int .i64 n), (3, .agg ⟨ShBody.enc b⟩)]) [ShTag.enc zero32, [.int .i64 0], ShTag.enc zero32, ShBody.enc body0] (by kernel_rfl) (fun w => by kernel_rfl) (fun w => by kernel_rfl) (fun p hp => by
    simp only [List.mem_cons, List.mem_nil_iff, or_false] at hp
    rcases hp with rfl | rfl
    · exact ⟨_, rfl, rfl⟩
    · exact ⟨_, rfl, by show (ShBody.enc b).length = _; rw [lenBody ok, lenBody okBody0]⟩) w
  rw [h]
  simp [Value.cells, Sh.enc]
theorem bldEntryGNB (game : List Int) (okg : ShTag.ok game) (n : Int) (b : BodyT) (ok : ShBody.ok b) (w : World) : (Instr.build T.api_Entry #[(0, .agg (tagA game)), (1, .int .i64 n), (3, .agg ⟨ShBody.enc b⟩)]).run Try.prog w = .ok (.agg ⟨ShEntry.enc (game, n, zero32, b, ())⟩) w := by
  have te : tagA game = ⟨ShTag.enc game⟩ := by rw [encTag]
  rw [te]
  have h := build_segs (P := Try.prog) (t := T.api_Entry) (fs := structFs Try.prog T.api_Entry) (parts := #[(0, .agg ⟨ShTag.enc game⟩), (1, .int .i64 n), (3, .agg ⟨ShBody.enc b⟩)]) [ShTag.enc zero32, [.int .i64 0], ShTag.enc zero32, ShBody.enc body0] (by kernel_rfl) (fun w => by kernel_rfl) (fun w => by kernel_rfl) (fun p hp => by
    simp only [List.mem_cons, List.mem_nil_iff, or_false] at hp
    rcases hp with rfl | rfl | rfl
    · exact ⟨_, rfl, by show (ShTag.enc game).length = _; rw [lenTag okg, lenTag ok0]⟩
    · exact ⟨_, rfl, rfl⟩
    · exact ⟨_, rfl, by show (ShBody.enc b).length = _; rw [lenBody ok, lenBody okBody0]⟩) w
  rw [h]
  simp [Value.cells, Sh.enc]
theorem bldEntryGB (game : List Int) (okg : ShTag.ok game) (b : BodyT) (ok : ShBody.ok b) (w : World) : (Instr.build T.api_Entry #[(0, .agg (tagA game)), (3, .agg ⟨ShBody.enc b⟩)]).run Try.prog w = .ok (.agg ⟨ShEntry.enc (game, 0, zero32, b, ())⟩) w := by
  have te : tagA game = ⟨ShTag.enc game⟩ := by rw [encTag]
  rw [te]
  have h := build_segs (P := Try.prog) (t := T.api_Entry) (fs := structFs Try.prog T.api_Entry) (parts := #[(0, .agg ⟨ShTag.enc game⟩), (3, .agg ⟨ShBody.enc b⟩)]) [ShTag.enc zero32, [.int .i64 0], ShTag.enc zero32, ShBody.enc body0] (by kernel_rfl) (fun w => by kernel_rfl) (fun w => by kernel_rfl) (fun p hp => by
    simp only [List.mem_cons, List.mem_nil_iff, or_false] at hp
    rcases hp with rfl | rfl
    · exact ⟨_, rfl, by show (ShTag.enc game).length = _; rw [lenTag okg, lenTag ok0]⟩
    · exact ⟨_, rfl, by show (ShBody.enc b).length = _; rw [lenBody ok, lenBody okBody0]⟩) w
  rw [h]
  simp [Value.cells, Sh.enc]
def plainB (n : Int) : BodyT := (n, move0, false, 0, zero32, zero32, ())
theorem bldBody24 (n : Int) (w : World) : (Instr.build T.api_Body #[(0, .int .i64 n)]).run Try.prog w = .ok (.agg ⟨ShBody.enc (plainB n)⟩) w := by kernel_rfl
theorem okPlainB {n : Int} (h : -9223372036854775808 ≤ n ∧ n ≤ 9223372036854775807) : ShBody.ok (plainB n) := ⟨okI h, okMove0, trivial, okI0, ok0, ok0, trivial⟩
theorem okEntry24 {game : List Int} {n : Int} {b : BodyT} (h1 : ShTag.ok game) (h2 : -9223372036854775808 ≤ n ∧ n ≤ 9223372036854775807) (h3 : ShBody.ok b) : ShEntry.ok (game, n, zero32, b, ()) := ⟨h1, h2, ok0, h3, trivial⟩

theorem bldTagZ (w : World) : (Instr.build T.api_Tag #[]).run Try.prog w = .ok (.agg (tagA zero32)) w := by kernel_rfl
theorem eqMove_F {x y : MoveT} {ox oy : Operand} (hx : ShMove.ok x) (hy : ShMove.ok y) {K : Bool → Prop} (H : K (decide (x = y))) : eqK Try.prog (binSem .eql T.api_Move ox oy (.agg ⟨ShMove.enc x⟩) (.agg ⟨ShMove.enc y⟩)) K :=
  eqK_flat (P := Try.prog) ShMove (t := T.api_Move) (m := 10) (by decide) rfl (by kernel_rfl) (by kernel_rfl) (by kernel_rfl) (by kernel_rfl) (by kernel_rfl) hx hy fun r hr => by
    have : r = decide (x = y) := by cases r <;> simp_all
    rw [this]; exact H
theorem neqMove_F {x y : MoveT} {ox oy : Operand} (hx : ShMove.ok x) (hy : ShMove.ok y) {K : Bool → Prop} (H : K (decide (¬ x = y))) : eqK Try.prog (binSem .neq T.api_Move ox oy (.agg ⟨ShMove.enc x⟩) (.agg ⟨ShMove.enc y⟩)) K :=
  neqK_flat (P := Try.prog) ShMove (t := T.api_Move) (m := 10) (by decide) rfl (by kernel_rfl) (by kernel_rfl) (by kernel_rfl) (by kernel_rfl) (by kernel_rfl) hx hy fun r hr => by
    have : r = decide (¬ x = y) := by cases r <;> simp_all
    rw [this]; exact H

/-! ### The example -/
def x24 : MoveT := (12, 28, 0, ())
theorem okX24 : ShMove.ok x24 := ⟨okI (show -9223372036854775808 ≤ (12 : Int) ∧ (12 : Int) ≤ 9223372036854775807 by decide), okI (show -9223372036854775808 ≤ (28 : Int) ∧ (28 : Int) ≤ 9223372036854775807 by decide), okI0, trivial⟩
def mk24 : BodyT × BodyT × Int × List ShThing.T := makeT24 false [thD 0] zero32 0 x24 (numT 0)
def env24 : EnvT := (zero32, 0, zero32, 1, move0, false, ())
def tk1 : Int × List ShThing.T × EnvT := takeT24 false mk24.2.2.2 env24 [(zero32, 0, zero32, mk24.1, ())]
def tk2 : Int × List ShThing.T × EnvT := takeT24 false tk1.2.1 tk1.2.2 [(zero32, 1, zero32, plainB 6, ())]
def tk3 : Int × List ShThing.T × EnvT := takeT24 false tk2.2.1 tk2.2.2 [(zero32, 2, zero32, mk24.2.1, ())]
theorem draw24 : askT [] (thD 0) = (0, [thD 0]) := by kernel_rfl
theorem mk24_0 : mk24.2.2.1 = 0 := by kernel_rfl
theorem tk1_0 : tk1.1 = 0 := by kernel_rfl
theorem tk1_s : tk1.2.2.state = 2 := by kernel_rfl
theorem tk2_0 : tk2.1 = 0 := by kernel_rfl
theorem tk3_0 : tk3.1 = 0 := by kernel_rfl
theorem tk3_s : tk3.2.2.state = 1 := by kernel_rfl
theorem tk3_l : tk3.2.2.last = x24 := by kernel_rfl
theorem tk3_o : tk3.2.2.opened = true := by kernel_rfl
def As24 (n : Nat) : List ShThing.T := if n = 0 then [] else if n = 1 then [thD 0] else mk24.2.2.2
theorem bldX24 (w : World) : (Instr.build T.api_Move #[(0, .int .i64 12), (1, .int .i64 28)]).run Try.prog w = .ok (.agg ⟨ShMove.enc x24⟩) w := by kernel_rfl

set_option maxHeartbeats 4000000 in
set_option maxRecDepth 20000 in
theorem awake24_spec (g : GH) {R : Value → Heap → Prop} (H : ∀ g' : GH, Mv [] g g' → R (.bool true) g'.h) : HC Try.prog F.law24_awake #[] R g.h := by
  refine law24_awake.calls ?_
  unfold law24_awake.body
  have m := Mv.refl [1, 2, 3, 4, 5, 6, 7] g.base
  refine makNew_spec g.base 1 2 false ⟨none, 0, 0⟩ [] (RdC.nil _ _ 0 _ _) (by simp) (by simp) fun pm q1 m1 xm => ⟨_, rfl, ?_⟩
  replace m := m.step m1 (by simp)
  refine ⟨_, bldX24, ?_⟩
  refine newStore_C q1 3 (by rw [szMove]; rfl) (by rw [szMove]; kernel_rfl) (oneMove _) fun px q2 m2 bx => ?_
  replace m := m.step m2 (by simp)
  replace xm := xm.mv m2 (by simp) (by simp)
  have okm : ShBody.ok mk24.1 ∧ ShBody.ok mk24.2.1 := makeT24_ok (real := false) (A := [thD 0]) (game := zero32) (number := 0) okX24 (okTag (numT_length 0) (numT_byte 0))
  refine joinW_intro (fun s h' => ∃ (q : GH) (pa pb : Nat) (ca cb : Nat), s = (some ⟨pa, 0, none⟩, some ⟨pb, 0, none⟩, 0) ∧ h' = q.h ∧ Mv [1, 2, 3, 4, 5, 6, 7] g.base q ∧ BlkC q 3 px ⟨ShMove.enc x24⟩ T.api_Move ∧ MakC q 1 2 pm false [] mk24.2.2.2 ∧
      BlkC q ca pa ⟨ShBody.enc mk24.1⟩ T.api_Body ∧ BlkC q cb pb ⟨ShBody.enc mk24.2.1⟩ T.api_Body ∧ (ca = 4 ∨ ca = 5) ∧ (cb = 4 ∨ cb = 5)) ?_ ?_
  · intro J hJ
    refine ⟨_, bldTagZ, ?_⟩
    refine loadMoveAt (blkCells bx) ?_
    rw [zBody]
    have lb0 : (⟨ShBody.enc body0⟩ : Array Value).size = 70 := by simpa using lenBody okBody0
    have l1 : (⟨ShBody.enc mk24.1⟩ : Array Value).size = 70 := by simpa using lenBody okm.1
    have l2 : (⟨ShBody.enc mk24.2.1⟩ : Array Value).size = 70 := by simpa using lenBody okm.2
    obtain ⟨S, hS⟩ : ∃ S : Nat → Option Nat → Option Nat → GH → Prop, ∀ n o1 o2 q, S n o1 o2 q ↔ (Mv [1, 2, 3, 4, 5, 6, 7] g.base q ∧ BlkC q 3 px ⟨ShMove.enc x24⟩ T.api_Move ∧ MakC q 1 2 pm false [] (As24 n) ∧
      (∀ p, o1 = some p → BlkC q 4 p ⟨ShBody.enc body0⟩ T.api_Body) ∧ (∀ p, o2 = some p → BlkC q 5 p ⟨ShBody.enc body0⟩ T.api_Body)) := ⟨fun n o1 o2 q => _, fun _ _ _ _ => Iff.rfl⟩
    have sN1 : ∀ {n : Nat} {q : GH} {K : Option Addr → Heap → Prop}, S n none none q → (∀ (p : Nat) (q' : GH), S n (some p) none q' → K (some ⟨p, 0, none⟩) q'.h) → newK q.h ⟨ShBody.enc body0⟩ T.api_Body K := by
      intro n q K s h
      obtain ⟨m, bx, xm, f1, f2⟩ := (hS _ _ _ _).1 s
      exact new_C q 4 fun p q' e b => h p q' ((hS _ _ _ _).2 ⟨m.step e (by simp), bx.mv e (by simp), xm.mv e (by simp) (by simp), fun p' h' => by cases h'; exact b, fun p' h' => by cases h'⟩)
    have sN2 : ∀ {n p1 : Nat} {q : GH} {K : Option Addr → Heap → Prop}, S n (some p1) none q → (∀ (p : Nat) (q' : GH), S n (some p1) (some p) q' → K (some ⟨p, 0, none⟩) q'.h) → newK q.h ⟨ShBody.enc body0⟩ T.api_Body K := by
      intro n p1 q K s h
      obtain ⟨m, bx, xm, f1, f2⟩ := (hS _ _ _ _).1 s
      exact new_C q 5 fun p q' e b => h p q' ((hS _ _ _ _).2 ⟨m.step e (by simp), bx.mv e (by simp), xm.mv e (by simp) (by simp), fun p' h' => (f1 p' h').mv e (by simp), fun p' h' => by cases h'; exact b⟩)
    have sD : ∀ {o1 o2 : Option Nat} {q : GH} {K : Array Value → Heap → Prop}, S 0 o1 o2 q → (∀ q' : GH, S 1 o1 o2 q' → K (tagA (numT 0)) q'.h) → callK Try.prog .agg F.tags_Maker_Draw #[.pointer (some ⟨pm, 0, none⟩), .int .i64 0] K q.h := by
      intro o1 o2 q K s h
      obtain ⟨m, bx, xm, f1, f2⟩ := (hS _ _ _ _).1 s
      refine drawTab_spec (by decide) xm 0 (by decide) fun q' e xm' => ⟨_, rfl, ?_⟩
      have ea : askT (As24 0) (thD 0) = (0, [thD 0]) := draw24
      rw [ea] at xm' ⊢
      exact h q' ((hS _ _ _ _).2 ⟨m.step e (by simp), bx.mv e (by simp), xm', fun p' h' => (f1 p' h').mv e (by simp), fun p' h' => (f2 p' h').mv e (by simp)⟩)
    have sM : ∀ {o1 o2 : Option Nat} {q : GH} {K : Array Value × Array Value × Int → Heap → Prop}, S 1 o1 o2 q → (∀ q' : GH, S 2 o1 o2 q' → K (⟨ShBody.enc mk24.1⟩, ⟨ShBody.enc mk24.2.1⟩, 0) q'.h) →
        callK Try.prog (Kd.trip .agg .agg (.int .i64)) F.seal_Make #[.pointer (some ⟨pm, 0, none⟩), .agg (tagA zero32), .int .i64 0, .agg ⟨ShMove.enc x24⟩, .agg (tagA (numT 0))] K q.h := by
      intro o1 o2 q K s h
      obtain ⟨m, bx, xm, f1, f2⟩ := (hS _ _ _ _).1 s
      refine sealMake_spec (by decide) xm zero32 ok0 0 x24 okX24 (numT 0) (okTag (numT_length 0) (numT_byte 0)) fun q' e xm' => ⟨(_, _, _), rfl, ?_⟩
      have em : makeT24 false (As24 1) zero32 0 x24 (numT 0) = mk24 := rfl
      rw [em] at xm' ⊢
      show K (⟨ShBody.enc mk24.1⟩, ⟨ShBody.enc mk24.2.1⟩, mk24.2.2.1) q'.h
      rw [mk24_0]
      exact h q' ((hS _ _ _ _).2 ⟨m.step e (by simp), bx.mv e (by simp), xm', fun p' h' => (f1 p' h').mv e (by simp), fun p' h' => (f2 p' h').mv e (by simp)⟩)
    have stl : ∀ {n : Nat} {o1 o2 : Option Nat} {q : GH}, S n o1 o2 q → stillAggK (sizeOfT Try.prog T.api_Move) q.h (some ⟨px, 0, none⟩) ⟨ShMove.enc x24⟩ := by
      intro n o1 o2 q s
      obtain ⟨m, bx, xm, f1, f2⟩ := (hS _ _ _ _).1 s
      exact loadMoveAt (blkCells bx) rfl
    have fin1 : ∀ {p1 p2 : Nat} {q : GH}, S 2 (some p1) (some p2) q → storeAggK (sizeOfT Try.prog T.api_Body) q.h (some ⟨p1, 0, none⟩) ⟨ShBody.enc mk24.1⟩ (fun h => storeAggK (sizeOfT Try.prog T.api_Body) h (some ⟨p2, 0, none⟩) ⟨ShBody.enc mk24.2.1⟩ (fun h => J (some ⟨p1, 0, none⟩, some ⟨p2, 0, none⟩, 0) h)) := by
      intro p1 p2 q s
      obtain ⟨m, bx, xm, f1, f2⟩ := (hS _ _ _ _).1 s
      refine storeAgg_C (f1 p1 rfl) (by rw [szBody]; exact l1) (by rw [szBody, lb0]; decide) oneBody fun q8 m8 b8 => ?_
      rw [overA_all (by rw [lb0]; simpa using l1)] at b8
      refine storeAgg_C ((f2 p2 rfl).mv m8 (by simp)) (by rw [szBody]; exact l2) (by rw [szBody, lb0]; decide) oneBody fun q9 m9 b9 => ?_
      rw [overA_all (by rw [lb0]; simpa using l2)] at b9
      exact hJ _ _ ⟨q9, p1, p2, 4, 5, rfl, rfl, (m.step m8 (by simp)).step m9 (by simp), (bx.mv m8 (by simp)).mv m9 (by simp), (xm.mv m8 (by simp) (by simp)).mv m9 (by simp) (by simp), b8.mv m9 (by simp), b9, by simp, by simp⟩
    have fin2 : ∀ {p1 p2 : Nat} {q : GH}, S 2 (some p1) (some p2) q → storeAggK (sizeOfT Try.prog T.api_Body) q.h (some ⟨p2, 0, none⟩) ⟨ShBody.enc mk24.1⟩ (fun h => storeAggK (sizeOfT Try.prog T.api_Body) h (some ⟨p1, 0, none⟩) ⟨ShBody.enc mk24.2.1⟩ (fun h => J (some ⟨p2, 0, none⟩, some ⟨p1, 0, none⟩, 0) h)) := by
      intro p1 p2 q s
      obtain ⟨m, bx, xm, f1, f2⟩ := (hS _ _ _ _).1 s
      refine storeAgg_C (f2 p2 rfl) (by rw [szBody]; exact l1) (by rw [szBody, lb0]; decide) oneBody fun q8 m8 b8 => ?_
      rw [overA_all (by rw [lb0]; simpa using l1)] at b8
      refine storeAgg_C ((f1 p1 rfl).mv m8 (by simp)) (by rw [szBody]; exact l2) (by rw [szBody, lb0]; decide) oneBody fun q9 m9 b9 => ?_
      rw [overA_all (by rw [lb0]; simpa using l2)] at b9
      exact hJ _ _ ⟨q9, p2, p1, 5, 4, rfl, rfl, (m.step m8 (by simp)).step m9 (by simp), (bx.mv m8 (by simp)).mv m9 (by simp), (xm.mv m8 (by simp) (by simp)).mv m9 (by simp) (by simp), b8.mv m9 (by simp), b9, by simp, by simp⟩
    have st : S 0 none none q2 := (hS _ _ _ _).2 ⟨m, bx, xm, fun _ h => (by cases h), fun _ h => (by cases h)⟩
    clear hS hJ m bx xm
    repeat' (first
      | with_reducible exact fin1 st
      | with_reducible exact fin2 st
      | with_reducible exact stl st
      | (with_reducible refine sD st ?_; intro q' st; try dsimp only)
      | (with_reducible refine sM st ?_; intro q' st; try dsimp only)
      | (with_reducible refine sN2 st ?_; intro p' q' st; try dsimp only)
      | (with_reducible refine sN1 st ?_; intro p' q' st; try dsimp only)
      | with_reducible refine And.intro ?_ ?_)
  rintro _ _ ⟨q3, pa, pb, ca, cb, rfl, rfl, m, bx, xm, ba, bb, hca, hcb⟩
  try dsimp only
  refine ⟨_, bldTagZ, ?_⟩
  refine envNew_spec xm zero32 ok0 6 fun p q4 m4 v => ⟨(_, _), rfl, ?_⟩
  replace m := m.step m4 (by simp)
  replace bx := bx.mv m4 (by simp)
  replace xm := xm.mv m4 (by simp) (by simp)
  replace ba := ba.mv m4 (by simp)
  replace bb := bb.mv m4 (by simp)
  try dsimp only
  rw [if_neg (by simp), if_neg (by simp)]
  refine loadBodyAt (blkCells ba) okm.1 ?_
  refine ⟨_, bldEntryB _ okm.1, ?_⟩
  refine mkEntry_C q4 7 (okEntry24 ok0 (by decide) okm.1) fun s5 q5 m5 o5 hc5 => ?_
  replace m := m.step m5 (by simp)
  replace bx := bx.mv m5 (by simp)
  replace xm := xm.mv m5 (by simp) (by simp)
  replace bb := bb.mv m5 (by simp)
  replace v := v.mv m5 (by simp)
  refine envTake_spec (by decide) (by decide) (by decide) (by decide) (by decide) v xm s5 _ (o5.slc rfl (by simp)) fun q6 m6 xm v => ⟨_, rfl, ?_⟩
  have e1 : takeT24 false mk24.2.2.2 (zero32, 0, zero32, 1, move0, false, ()) [(zero32, 0, zero32, mk24.1, ())] = tk1 := rfl
  rw [e1] at xm v ⊢
  replace m := m.step m6 (by simp)
  replace bx := bx.mv m6 (by simp)
  replace bb := bb.mv m6 (by rcases hcb with rfl | rfl <;> simp)
  try dsimp only
  rw [tk1_0, if_neg (by simp)]
  refine envState_spec v ⟨_, rfl, ?_⟩
  try dsimp only
  rw [tk1_s, if_neg (by simp)]
  refine ⟨_, bldBody24 6, ?_⟩
  have ok6 : ShBody.ok (plainB 6) := okPlainB (by decide)
  refine ⟨_, bldEntryNB 1 _ ok6, ?_⟩
  refine mkEntry_C q6 7 (okEntry24 ok0 (by decide) ok6) fun s7 q7 m7 o7 hc7 => ?_
  replace m := m.step m7 (by simp)
  replace bx := bx.mv m7 (by simp)
  replace xm := xm.mv m7 (by simp) (by simp)
  replace bb := bb.mv m7 (by simp)
  replace v := v.mv m7 (by simp)
  refine envTake_spec (by decide) (by decide) (by decide) (by decide) (by decide) v xm s7 _ (o7.slc rfl (by simp)) fun q8 m8 xm v => ⟨_, rfl, ?_⟩
  have e2 : takeT24 false tk1.2.1 tk1.2.2 [(zero32, 1, zero32, plainB 6, ())] = tk2 := rfl
  rw [e2] at xm v ⊢
  replace m := m.step m8 (by simp)
  replace bx := bx.mv m8 (by simp)
  replace bb := bb.mv m8 (by rcases hcb with rfl | rfl <;> simp)
  try dsimp only
  rw [tk2_0, if_neg (by simp)]
  refine loadBodyAt (blkCells bb) okm.2 ?_
  refine ⟨_, bldEntryNB 2 _ okm.2, ?_⟩
  refine mkEntry_C q8 7 (okEntry24 ok0 (by decide) okm.2) fun s9 q9 m9 o9 hc9 => ?_
  replace m := m.step m9 (by simp)
  replace bx := bx.mv m9 (by simp)
  replace xm := xm.mv m9 (by simp) (by simp)
  replace v := v.mv m9 (by simp)
  refine envTake_spec (by decide) (by decide) (by decide) (by decide) (by decide) v xm s9 _ (o9.slc rfl (by simp)) fun q10 m10 xm v => ⟨_, rfl, ?_⟩
  have e3 : takeT24 false tk2.2.1 tk2.2.2 [(zero32, 2, zero32, mk24.2.1, ())] = tk3 := rfl
  rw [e3] at xm v ⊢
  replace m := m.step m10 (by simp)
  replace bx := bx.mv m10 (by simp)
  try dsimp only
  rw [tk3_0, if_neg (by simp)]
  refine envOpened_spec v fun q11 m11 => ⟨(_, _), rfl, ?_⟩
  replace m := m.step m11 (by simp)
  replace bx := bx.mv m11 (by simp)
  replace v := v.mv m11 (by simp)
  try dsimp only
  rw [tk3_l]
  refine newStore_C q11 4 (by rw [szMove]; rfl) (by rw [szMove]; kernel_rfl) (oneMove _) fun py q12 m12 by_ => ?_
  replace m := m.step m12 (by simp)
  rw [if_pos (show _ = true from tk3_o)]
  refine loadMoveAt (blkCells by_) ?_
  refine loadMoveAt (blkCells (bx.mv m12 (by simp))) ?_
  refine eqMove_F okX24 okX24 ?_
  rw [if_pos (by simp)]
  refine envState_spec (v.mv m12 (by simp)) ⟨_, rfl, ?_⟩
  try dsimp only
  rw [tk3_s]
  exact H (g.via q12 fun _ => 0) (m.via (by simp) _)

end Go.Proofs.Ytejjeggaofpbiaa
