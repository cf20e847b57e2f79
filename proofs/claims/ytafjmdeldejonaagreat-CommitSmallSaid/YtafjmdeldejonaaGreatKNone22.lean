/-
  Covers by no maker.
-/
import Derived.Test.YtafjmdeldejonaaGreatKMoves22
import Derived.Test.YtafjmdeldejonaaGreatKNone
set_option linter.unusedSimpArgs false
set_option linter.unusedVariables false
namespace Go.Proofs.YtafjmdeldejonaaGreat
open Go Go.Ev

theorem closeN {L : List Nat} {g q : GH} (m : Mv L g q) (h : ∀ j ∈ L, Fresh g j) : Mv [] g (g.via q id) := m.re id fun j hj => .inr (h j hj)
theorem noCover_spec {g : GH} {c : Nat} {v : Option Addr} (x : NoC g c v) (nonce : List Int) (s : Sl) {R : Value → Heap → Prop} (H : ∀ g' : GH, Mv [] g g' → R (.tuple #[.agg (tagA zero32), .int .i64 1]) g'.h) :
    HC Tryz.prog F.commit_Cover #[.pointer v, .agg (tagA nonce), .slice s.a s.n s.c] R g.h := by
  refine commit_Cover.calls (rows2 := s) ?_
  unfold commit_Cover.body
  obtain ⟨y1, hy1, n1⟩ := fresh_exists g [c]
  have m := Mv.refl [y1] g
  refine new_C g y1 fun pn q1 e1 bn => ?_
  replace m := m.step e1 (by simp)
  replace x := x.mv e1 (by simp)
  rw [zTag]
  refine new_C q1 y1 fun pt q2 e2 bt => ?_
  replace m := m.step e2 (by simp)
  replace x := x.mv e2 (by simp)
  refine noCopy_spec x ⟨none, rfl, ?_⟩
  try dsimp only
  rw [if_pos (by rfl)]
  have bt' : BlkC q2 y1 pt (tagA zero32) T.api_Tag := bt
  refine loadAgg_whole bt' (tagA_size zero32_tag.1) ?_
  refine result_C (n := 32) szTag dTag bt' (by simp [zero32]) (by simp [zero32]) (fun v hv => oneBy _ v hv) fun q3 e3 => ?_
  exact H (g.via q3 id) (closeN (m.step e3 (by simp)) (by simp [hy1]))
theorem noSome_spec {g : GH} {c : Nat} {v : Option Addr} (x : NoC g c v) (is : Bool) (nonce : List Int) (s : Sl) {R : Value → Heap → Prop} (H : ∀ g' : GH, Mv [] g g' → R (.tuple #[.agg (tagA zero32), .int .i64 1]) g'.h) :
    HC Tryz.prog F.commit_some #[.pointer v, .bool is, .agg (tagA nonce), .slice s.a s.n s.c] R g.h := by
  refine commit_some.calls (rows3 := s) ?_
  unfold commit_some.body
  obtain ⟨y1, hy1, n1⟩ := fresh_exists g [c]
  have m := Mv.refl [y1] g
  refine new_C g y1 fun pn q1 e1 bn => ?_
  replace m := m.step e1 (by simp)
  replace x := x.mv e1 (by simp)
  rw [zTag]
  refine new_C q1 y1 fun pt q2 e2 bt => ?_
  replace m := m.step e2 (by simp)
  replace x := x.mv e2 (by simp)
  refine noCopy_spec x ⟨none, rfl, ?_⟩
  try dsimp only
  rw [if_pos (by rfl)]
  have bt' : BlkC q2 y1 pt (tagA zero32) T.api_Tag := bt
  refine loadAgg_whole bt' (tagA_size zero32_tag.1) ?_
  refine result_C (n := 32) szTag dTag bt' (by simp [zero32]) (by simp [zero32]) (fun v hv => oneBy _ v hv) fun q3 e3 => ?_
  exact H (g.via q3 id) (closeN (m.step e3 (by simp)) (by simp [hy1]))

set_option maxHeartbeats 40000000 in
set_option maxRecDepth 100000 in
theorem noCoin_spec {g : GH} {c : Nat} {v : Option Addr} (x : NoC g c v) (game : List Int) (player side : Int) (nonce : List Int) (okn : ShTag.ok nonce) {R : Value → Heap → Prop} (H : ∀ g' : GH, Mv [] g g' → R (.tuple #[.agg (tagA zero32), .int .i64 1]) g'.h) :
    HC Tryz.prog F.commit_Coin #[.pointer v, .agg (tagA game), .int .i64 player, .int .i64 side, .agg (tagA nonce)] R g.h := by
  refine commit_Coin.calls ?_
  unfold commit_Coin.body
  have htb := okTagB okn
  obtain ⟨y2, hy2, n2⟩ := fresh_exists g [c]
  obtain ⟨y4, hy4, n4⟩ := fresh_exists g [c, y2]
  simp only [List.mem_cons, List.mem_nil_iff, or_false, not_or] at n2 n4
  have m := Mv.refl [y2, y4] g
  refine new_C g y4 fun pg q1 e1 bg => ?_
  replace m := m.step e1 (by simp)
  replace x := x.mv e1 (by simp)
  refine new_C q1 y2 fun pn q2 e2 bn => ?_
  replace m := m.step e2 (by simp)
  replace x := x.mv e2 (by simp)
  rw [zTag]
  refine new_C q2 y2 fun pv q3 e3 bv => ?_
  replace m := m.step e3 (by simp)
  replace x := x.mv e3 (by simp)
  replace bn := bn.mv e3 (by simp)
  refine sliceArr_C 0 32 rfl rfl (by decide) ?_
  refine loadAgg_whole bn (tagA_size htb.1) ?_
  generalize hsg : (⟨some ⟨pg, 0 + 0 * sizeOfT Tryz.prog T.uint8, none⟩, 32 - 0, 32 - 0⟩ : Sl) = sg
  clear hsg
  obtain ⟨S, hS⟩ : ∃ S : Option Sl → GH → Prop, ∀ oc q, S oc q ↔ (Mv [y2, y4] g q ∧ NoC q c v ∧ BlkC q y2 pn (tagA nonce) T.api_Tag ∧ BlkC q y2 pv (Array.replicate 32 (.int .u8 0)) T.api_Tag ∧ (∀ s, oc = some s → OwnC T.uint8 1 q y4 s (coinB.map byV))) := ⟨fun oc q => _, fun _ _ => Iff.rfl⟩
  have sC1 : ∀ {q : GH} {K : Sl → Heap → Prop}, S none q → (∀ (s : Sl) (q' : GH), S (some s) q' → K s q'.h) → newSlK q.h 4 #[(.int .u8 99), (.int .u8 111), (.int .u8 105), (.int .u8 110)] T.uint8 K := by
    intro q K s h
    obtain ⟨m, x, bn, bv, f1⟩ := (hS _ _).1 s
    refine newSl_C q y4 rfl fun s' q' e o hn hc => h s' q' ((hS _ _).2 ⟨m.step e (by simp), x.mv e (by simp), bn.mv e (by simp), bv.mv e (by simp), fun s h => ?_⟩)
    cases h; exact o
  have sC2 : ∀ {q : GH} {sc : Sl} {K : Sl → Heap → Prop}, S (some sc) q → (∀ (q' : GH), S none q' → K sc q'.h) → opK Tryz.prog .slice (convert T.sl_uint8 T.sl_uint8 (.slice sc.a sc.n sc.c)) K q.h := by
    intro q sc K s h
    obtain ⟨m, x, bn, bv, f1⟩ := (hS _ _).1 s
    have o := f1 sc rfl
    refine convRd (e := T.uint8) (by kernel_rfl) (by kernel_rfl) o (by simp [coinB]) fun q' e r k4 => h q' ((hS _ _).2 ⟨m.step e (by simp), x.mv e (by simp [Ne.symm n4.1]), bn.mv e (by simp [Ne.symm n4.2]), bv.mv e (by simp [Ne.symm n4.2]), fun s h => by cases h⟩)
  have sB : ∀ {q : GH} {oc : Option Sl} {b : Int} {K : Sl → Heap → Prop}, S oc q → (∀ (s : Sl) (q' : GH), S oc q' → K s q'.h) → newSlK q.h 1 #[(.int .u8 (IntKind.u8.wrap b))] T.uint8 K := by
    intro q oc b K s h
    obtain ⟨m, x, bn, bv, f1⟩ := (hS _ _).1 s
    exact newSl_C q y4 rfl fun s' q' e o hn hc => h s' q' ((hS _ _).2 ⟨m.step e (by simp), x.mv e (by simp), bn.mv e (by simp), bv.mv e (by simp), fun s h => (f1 s h).mv e (by simp)⟩)
  have sR : ∀ {q : GH} {oc : Option Sl} {sc sp ss : Sl} {K : Sl → Heap → Prop}, S oc q → (∀ (s : Sl) (q' : GH), S oc q' → K s q'.h) → newSlK q.h 4 #[(.slice sc.a sc.n sc.c), (.slice sg.a sg.n sg.c), (.slice sp.a sp.n sp.c), (.slice ss.a ss.n ss.c)] T.sl_uint8 K := by
    intro q oc sc sp ss K s h
    obtain ⟨m, x, bn, bv, f1⟩ := (hS _ _).1 s
    exact newSl_C q y4 rfl fun s' q' e o hn hc => h s' q' ((hS _ _).2 ⟨m.step e (by simp), x.mv e (by simp), bn.mv e (by simp), bv.mv e (by simp), fun s h => (f1 s h).mv e (by simp)⟩)
  have stl : ∀ {q : GH} {oc : Option Sl}, S oc q → stillAggK (sizeOfT Tryz.prog T.api_Tag) q.h (some ⟨pn, 0, none⟩) (tagA nonce) := by
    intro q oc s
    obtain ⟨m, x, bn, bv, f1⟩ := (hS _ _).1 s
    exact stillAgg_whole bn (tagA_size htb.1)
  have fin : ∀ {q : GH} {oc : Option Sl} {sr : Sl} {is : Bool}, S oc q →
      callK Tryz.prog (Kd.pair .agg (.int .i64)) F.commit_some #[(.pointer v), (.bool is), (.agg (tagA nonce)), (.slice sr.a sr.n sr.c)] (fun (v_13 : Array Value × Int) (h : Heap) =>
      storeAggK (sizeOfT Tryz.prog T.api_Tag) h (some ⟨pv, 0, none⟩) v_13.1 (fun (h : Heap) =>
      quietK Tryz.prog .agg (Instr.loadAt T.api_Tag (.pointer (some ⟨pv, 0, none⟩))) (fun (r_14 : Array Value) =>
      R (.tuple #[(.agg r_14), (.int .i64 v_13.2)]) h) h)) q.h := by
    intro q oc sr is s
    obtain ⟨m, x, bn, bv, f1⟩ := (hS _ _).1 s
    refine noSome_spec x is nonce sr fun q2 e2 => ⟨(_, _), rfl, ?_⟩
    try dsimp only
    refine result_C (n := 32) szTag dTag (bv.mv e2 (by simp)) (by simp) (by simp [zero32]) (fun v hv => oneBy _ v hv) fun q10 e10 => ?_
    exact H (g.via q10 id) (closeN ((m.step e2 (by simp)).step e10 (by simp)) (by simp [hy2, hy4]))
  have st : S none q3 := (hS _ _).2 ⟨m, x, bn, bv, fun _ e => (by cases e)⟩
  clear hS m x bn bv bg e1 e2 e3
  have bp : ∀ {q : GH} {K : Bool → Heap → Prop}, K (bitT player) q.h → callK Tryz.prog .bool F.commit_bit #[(.int .i64 player)] K q.h := fun h => coinBit_spec ⟨_, rfl, h⟩
  have bs : ∀ {q : GH} {K : Bool → Heap → Prop}, K (bitT side) q.h → callK Tryz.prog .bool F.commit_bit #[(.int .i64 side)] K q.h := fun h => coinBit_spec ⟨_, rfl, h⟩
  cases hp : bitT player with
  | true =>
    rw [hp] at bp
    repeat' (first
      | with_reducible exact fin st
      | with_reducible exact stl st
      | (with_reducible refine sR st ?_; intro s' q' st; try dsimp only)
      | (with_reducible refine sC1 st ?_; intro s' q' st; try dsimp only)
      | (with_reducible refine sC2 st ?_; intro q' st; try dsimp only)
      | (with_reducible refine sB st ?_; intro s' q' st; try dsimp only)
      | (with_reducible refine bs ?_; try dsimp only)
      | (with_reducible refine bp ?_; try dsimp only)
      | rw [if_pos (rfl : true = true)]
      | with_reducible refine And.intro ?_ ?_)
  | false =>
    rw [hp] at bp
    repeat' (first
      | with_reducible exact fin st
      | with_reducible exact stl st
      | (with_reducible refine sR st ?_; intro s' q' st; try dsimp only)
      | (with_reducible refine sC1 st ?_; intro s' q' st; try dsimp only)
      | (with_reducible refine sC2 st ?_; intro q' st; try dsimp only)
      | (with_reducible refine sB st ?_; intro s' q' st; try dsimp only)
      | (with_reducible refine bs ?_; try dsimp only)
      | (with_reducible refine bp ?_; try dsimp only)
      | rw [if_neg (by decide : ¬ false = true)]
      | with_reducible refine And.intro ?_ ?_)

set_option maxHeartbeats 4000000 in
theorem noMove_spec {g : GH} {c : Nat} {v : Option Addr} (x : NoC g c v) (game : List Int) (number : Int) (mv : MoveT) (okm : ShMove.ok mv) (nonce : List Int) (okn : ShTag.ok nonce) {R : Value → Heap → Prop} (H : ∀ g' : GH, Mv [] g g' → R (.tuple #[.agg (tagA zero32), .int .i64 1]) g'.h) :
    HC Tryz.prog F.commit_Move #[.pointer v, .agg (tagA game), .int .i64 number, .agg ⟨ShMove.enc mv⟩, .agg (tagA nonce)] R g.h := by
  refine commit_Move.calls ?_
  unfold commit_Move.body
  have htb := okTagB okn
  obtain ⟨y1, hy1, n1⟩ := fresh_exists g [c]
  obtain ⟨y4, hy4, n4⟩ := fresh_exists g [c, y1]
  simp only [List.mem_cons, List.mem_nil_iff, or_false, not_or] at n1 n4
  have m := Mv.refl [y1, y4] g
  refine new_C g y4 fun pg q1 e1 bg => ?_
  replace m := m.step e1 (by simp)
  replace x := x.mv e1 (by simp)
  refine new_C q1 y1 fun px q2 e2 bx => ?_
  replace m := m.step e2 (by simp)
  replace x := x.mv e2 (by simp)
  refine new_C q2 y1 fun pn q3 e3 bn => ?_
  replace m := m.step e3 (by simp)
  replace x := x.mv e3 (by simp)
  replace bx := bx.mv e3 (by simp)
  rw [zTag]
  refine new_C q3 y1 fun pv q4 e4 bv => ?_
  replace m := m.step e4 (by simp)
  replace x := x.mv e4 (by simp)
  replace bx := bx.mv e4 (by simp)
  replace bn := bn.mv e4 (by simp)
  obtain ⟨fr, to, be, u⟩ := mv
  cases u
  have okm' : ShMove.ok (fr, to, be, ()) := okm
  refine joinW_intro (fun s h' => ∃ q : GH, s = moveIs number (fr, to, be, ()) ∧ h' = q.h ∧ Mv [] q4 q) ?_ ?_
  · intro J hJ
    by_cases h0 : number ≥ 0
    · rw [if_pos (by simpa using h0)]
      by_cases h1 : number ≤ 4294967295
      · rw [if_pos (by simpa using h1)]
        refine loadAgg_whole bx (by kernel_rfl) ?_
        refine ⟨_, bldMove22 fr to be, ?_⟩
        refine msgBody_spec q4 (moveBody (fr, to, be, ())) (okMoveBody okm') fun q5 e5 => ⟨_, rfl, ?_⟩
        exact hJ _ _ ⟨q5, by unfold moveIs; rw [decide_eq_true h0, decide_eq_true h1]; rfl, rfl, e5⟩
      · rw [if_neg (by simpa using h1)]
        exact hJ _ _ ⟨q4, by unfold moveIs; rw [decide_eq_false h1]; simp, rfl, Mv.refl _ _⟩
    · rw [if_neg (by simpa using h0)]
      exact hJ _ _ ⟨q4, by unfold moveIs; rw [decide_eq_false h0]; simp, rfl, Mv.refl _ _⟩
  rintro _ _ ⟨q5, rfl, rfl, e5⟩
  replace m := m.step e5 (by simp)
  replace x := x.mv e5 (by simp)
  replace bx := bx.mv e5 (by simp)
  replace bn := bn.mv e5 (by simp)
  replace bv := bv.mv e5 (by simp)
  refine ⟨by decide, by decide, by decide, ?_⟩
  refine newSl_C q5 y4 rfl fun s6 q6 e6 o6 hn6 hc6 => ?_
  replace m := m.step e6 (by simp)
  replace x := x.mv e6 (by simp)
  replace bx := bx.mv e6 (by simp)
  replace bn := bn.mv e6 (by simp)
  replace bv := bv.mv e6 (by simp)
  refine sliceArr_C 0 32 rfl rfl (by decide) ?_
  generalize hsg : (⟨some ⟨pg, 0 + 0 * sizeOfT Tryz.prog T.uint8, none⟩, 32 - 0, 32 - 0⟩ : Sl) = sg
  clear hsg
  simp only [fldK_some]
  refine loadAgg_whole bn (tagA_size htb.1) ?_
  rw [loadK_C bx]
  refine ⟨fr, rfl, ?_⟩
  rw [loadK_C bx]
  refine ⟨to, rfl, ?_⟩
  rw [loadK_C bx]
  refine ⟨be, rfl, ?_⟩
  have fin : ∀ (q : GH) (sc sb : Sl), Mv [y1, y4] g q → NoC q c v → BlkC q y1 pv (Array.replicate 32 (.int .u8 0)) T.api_Tag →
      newSlK q.h 4 #[(.slice sc.a sc.n sc.c), (.slice sg.a sg.n sg.c), (.slice s6.a s6.n s6.c), (.slice sb.a sb.n sb.c)] T.sl_uint8 (fun (v_12 : Sl) (h : Heap) =>
      callK Tryz.prog (Kd.pair .agg (.int .i64)) F.commit_some #[(.pointer v), (.bool (moveIs number (fr, to, be, ()))), (.agg (tagA nonce)), (.slice v_12.a v_12.n v_12.c)] (fun (v_13 : Array Value × Int) (h : Heap) =>
      storeAggK (sizeOfT Tryz.prog T.api_Tag) h (some ⟨pv, 0, none⟩) v_13.1 (fun (h : Heap) =>
      quietK Tryz.prog .agg (Instr.loadAt T.api_Tag (.pointer (some ⟨pv, 0, none⟩))) (fun (r_14 : Array Value) =>
      R (.tuple #[(.agg r_14), (.int .i64 v_13.2)]) h) h)) h) := by
    intro q sc sb m x bv
    refine newSl_C q y4 rfl fun sr q' e o hn hcr => ?_
    refine noSome_spec (x.mv e (by simp)) _ nonce sr fun q2 e2 => ⟨(_, _), rfl, ?_⟩
    try dsimp only
    refine result_C (n := 32) szTag dTag ((bv.mv e (by simp)).mv e2 (by simp)) (by simp) (by simp [zero32]) (fun v hv => oneBy _ v hv) fun q10 e10 => ?_
    exact H (g.via q10 id) (closeN (((m.step e (by simp)).step e2 (by simp)).step e10 (by simp)) (by simp [hy1, hy4]))
  clear e1 e2 e3 e4 e5 e6
  refine ⟨?_, ?_⟩
  · refine newSl_C q6 y4 rfl fun s7 q7 e7 o7 hn7 hc7 => ?_
    refine ⟨?_, ?_⟩
    · refine convRd (e := T.uint8) (by kernel_rfl) (by kernel_rfl) o7 (by simp) fun q8 e8 r8 k8 => ?_
      refine newSl_C q8 y4 rfl fun s9 q9 e9 o9 hn9 hc9 => ?_
      exact fin q9 s7 s9 (((m.step e7 (by simp)).step e8 (by simp)).step e9 (by simp)) (((x.mv e7 (by simp)).mv e8 (by simp [Ne.symm n4.1])).mv e9 (by simp)) (((bv.mv e7 (by simp)).mv e8 (by simp [Ne.symm n4.2])).mv e9 (by simp))
    · refine newSl_C q7 y4 rfl fun s9 q9 e9 o9 hn9 hc9 => ?_
      refine convRd (e := T.uint8) (by kernel_rfl) (by kernel_rfl) (o7.mv e9 (by simp)) (by simp) fun q8 e8 r8 k8 => ?_
      exact fin q8 s7 s9 (((m.step e7 (by simp)).step e9 (by simp)).step e8 (by simp)) (((x.mv e7 (by simp)).mv e9 (by simp)).mv e8 (by simp [Ne.symm n4.1])) (((bv.mv e7 (by simp)).mv e9 (by simp)).mv e8 (by simp [Ne.symm n4.2]))
  · refine newSl_C q6 y4 rfl fun s9 q9 e9 o9 hn9 hc9 => ?_
    refine newSl_C q9 y4 rfl fun s7 q7 e7 o7 hn7 hc7 => ?_
    refine convRd (e := T.uint8) (by kernel_rfl) (by kernel_rfl) o7 (by simp) fun q8 e8 r8 k8 => ?_
    exact fin q8 s7 s9 (((m.step e9 (by simp)).step e7 (by simp)).step e8 (by simp)) (((x.mv e9 (by simp)).mv e7 (by simp)).mv e8 (by simp [Ne.symm n4.1])) (((bv.mv e9 (by simp)).mv e7 (by simp)).mv e8 (by simp [Ne.symm n4.2]))

theorem noOpened_spec {g : GH} {t : List Int} (f : FuncId) (cap : Array Value)
    (hask : ∀ q : GH, Mv [] g q → ∀ R' : Value → Heap → Prop, (∀ q' : GH, Mv [] q q' → R' (.tuple #[.agg (tagA zero32), .int .i64 1]) q'.h) → HC Tryz.prog f (appA (appA #[] #[]) cap) R' q.h) {R : Value → Heap → Prop}
    (H : ∀ g' : GH, Mv [] g g' → R (.int .i64 1) g'.h) : HC Tryz.prog F.commit_opened #[.agg (tagA t), .func (.func f) #[] cap] R g.h := by
  refine commit_opened.calls ?_
  unfold commit_opened.body
  obtain ⟨y1, hy1, n1⟩ := fresh_exists g []
  refine new_C g y1 fun p1 q1 m1 b1 => ?_
  refine callV_fn ?_
  refine hask q1 m1 _ fun q2 m2 => ⟨(_, _), rfl, ?_⟩
  dsimp only
  refine newStore_C q2 y1 (by rw [szTag]; simp [zero32]) (by rw [zTag, szTag]; simp) (fun v hv => oneBy _ v hv) fun px q3 m3 bx => ?_
  have M : Mv [y1] g q3 := ((Mv.mono m1 (L := [y1]) (by simp)).step m2 (by simp)).step m3 (by simp)
  rw [if_pos (by simp)]
  exact H (g.via q3 id) (closeN M (by simp [hy1]))

theorem noOpen_spec {g : GH} {c : Nat} {v : Option Addr} (x : NoC g c v) (t : List Int) (okt : ShTag.ok t) (nonce : List Int) (okn : ShTag.ok nonce) (s : Sl) {R : Value → Heap → Prop} (H : ∀ g' : GH, Mv [] g g' → R (.int .i64 1) g'.h) :
    HC Tryz.prog F.commit_Open #[.pointer v, .agg (tagA t), .agg (tagA nonce), .slice s.a s.n s.c] R g.h := by
  refine commit_Open.calls (rows3 := s) ?_
  unfold commit_Open.body
  have htb := okTagB okt
  have hnb := okTagB okn
  obtain ⟨y1, hy1, n1⟩ := fresh_exists g [c]
  simp only [List.mem_cons, List.mem_nil_iff, or_false, not_or] at n1
  have m := Mv.refl [y1] g
  refine new_C g y1 fun pm q1 m1 bm => ?_
  refine new_C q1 y1 fun pt q2 m2 bt => ?_
  refine new_C q2 y1 fun pn q3 m3 bn => ?_
  refine new_C q3 y1 fun pr q4 m4 br => ?_
  replace m := (((m.step m1 (by simp)).step m2 (by simp)).step m3 (by simp)).step m4 (by simp)
  have bm4 := ((bm.mv m2 (by simp)).mv m3 (by simp)).mv m4 (by simp)
  have bt4 := (bt.mv m3 (by simp)).mv m4 (by simp)
  have bn4 := bn.mv m4 (by simp)
  have x4 := (((x.mv m1 (by simp)).mv m2 (by simp)).mv m3 (by simp)).mv m4 (by simp)
  refine loadAgg_whole bt4 (tagA_size htb.1) ?_
  refine noOpened_spec _ _ (fun q mq R' hR' => ?_) fun q5 m5 => ⟨_, rfl, ?_⟩
  · show HC Tryz.prog F.commit_Open_1 #[.pointer (some ⟨pm, 0, none⟩), .pointer (some ⟨pn, 0, none⟩), .pointer (some ⟨pr, 0, none⟩)] R' q.h
    refine commit_Open_1.calls ?_
    unfold commit_Open_1.body
    obtain ⟨z, hz, nz⟩ := fresh_exists q [c, y1]
    simp only [List.mem_cons, List.mem_nil_iff, or_false, not_or] at nz
    rw [zTag]
    refine new_C q z fun pz q6 m6 bz => ?_
    rw [loadK_C ((bm4.mv mq (by simp)).mv m6 (by simp))]
    refine ⟨v, rfl, ?_⟩
    refine loadAgg_whole ((bn4.mv mq (by simp)).mv m6 (by simp)) (tagA_size hnb.1) ?_
    rw [loadK_C ((br.mv mq (by simp)).mv m6 (by simp))]
    refine ⟨s, rfl, ?_⟩
    refine noCover_spec ((x4.mv mq (by simp)).mv m6 (by simp)) nonce s fun q7 m7 => ⟨(_, _), rfl, ?_⟩
    try dsimp only
    refine result_C (n := 32) szTag dTag (bz.mv m7 (by simp)) (by simp) (by simp [zero32]) (fun v hv => oneBy _ v hv) fun q8 m8 => ?_
    exact hR' (q.via q8 id) (closeN (((Mv.mono m6 (L := [z]) (by simp)).step m7 (by simp)).step m8 (by simp)) (by simp [hz]))
  · exact H (g.via q5 id) (closeN (m.step m5 (by simp)) (by simp [hy1]))

theorem noOpenCoin_spec {g : GH} {c : Nat} {v : Option Addr} (x : NoC g c v) (t : List Int) (okt : ShTag.ok t) (game : List Int) (okg : ShTag.ok game) (player side : Int) (nonce : List Int) (okn : ShTag.ok nonce) {R : Value → Heap → Prop} (H : ∀ g' : GH, Mv [] g g' → R (.int .i64 1) g'.h) :
    HC Tryz.prog F.commit_OpenCoin #[.pointer v, .agg (tagA t), .agg (tagA game), .int .i64 player, .int .i64 side, .agg (tagA nonce)] R g.h := by
  refine commit_OpenCoin.calls ?_
  unfold commit_OpenCoin.body
  have htb := okTagB okt
  have hnb := okTagB okn
  have hgb := okTagB okg
  obtain ⟨y1, hy1, n1⟩ := fresh_exists g [c]
  simp only [List.mem_cons, List.mem_nil_iff, or_false, not_or] at n1
  have m := Mv.refl [y1] g
  refine new_C g y1 fun pm q1 m1 bm => ?_
  refine new_C q1 y1 fun pt q2 m2 bt => ?_
  refine new_C q2 y1 fun pg q3 m3 bg => ?_
  refine new_C q3 y1 fun pp q4 m4 bp => ?_
  refine new_C q4 y1 fun ps q5 m5 bs => ?_
  refine new_C q5 y1 fun pn q6 m6 bn => ?_
  replace m := (((((m.step m1 (by simp)).step m2 (by simp)).step m3 (by simp)).step m4 (by simp)).step m5 (by simp)).step m6 (by simp)
  have bm6 := ((((bm.mv m2 (by simp)).mv m3 (by simp)).mv m4 (by simp)).mv m5 (by simp)).mv m6 (by simp)
  have bt6 := (((bt.mv m3 (by simp)).mv m4 (by simp)).mv m5 (by simp)).mv m6 (by simp)
  have bg6 := ((bg.mv m4 (by simp)).mv m5 (by simp)).mv m6 (by simp)
  have bp6 := (bp.mv m5 (by simp)).mv m6 (by simp)
  have bs6 := bs.mv m6 (by simp)
  have x6 := (((((x.mv m1 (by simp)).mv m2 (by simp)).mv m3 (by simp)).mv m4 (by simp)).mv m5 (by simp)).mv m6 (by simp)
  refine loadAgg_whole bt6 (tagA_size htb.1) ?_
  refine noOpened_spec _ _ (fun q mq R' hR' => ?_) fun q7 m7 => ⟨_, rfl, ?_⟩
  · show HC Tryz.prog F.commit_OpenCoin_1 #[.pointer (some ⟨pm, 0, none⟩), .pointer (some ⟨pg, 0, none⟩), .pointer (some ⟨pp, 0, none⟩), .pointer (some ⟨ps, 0, none⟩), .pointer (some ⟨pn, 0, none⟩)] R' q.h
    refine commit_OpenCoin_1.calls ?_
    unfold commit_OpenCoin_1.body
    obtain ⟨z, hz, nz⟩ := fresh_exists q [c, y1]
    simp only [List.mem_cons, List.mem_nil_iff, or_false, not_or] at nz
    rw [zTag]
    refine new_C q z fun pz q8 m8 bz => ?_
    rw [loadK_C ((bm6.mv mq (by simp)).mv m8 (by simp))]
    refine ⟨v, rfl, ?_⟩
    refine loadAgg_whole ((bg6.mv mq (by simp)).mv m8 (by simp)) (tagA_size hgb.1) ?_
    rw [loadK_C ((bp6.mv mq (by simp)).mv m8 (by simp))]
    refine ⟨player, rfl, ?_⟩
    rw [loadK_C ((bs6.mv mq (by simp)).mv m8 (by simp))]
    refine ⟨side, rfl, ?_⟩
    refine loadAgg_whole ((bn.mv mq (by simp)).mv m8 (by simp)) (tagA_size hnb.1) ?_
    refine noCoin_spec ((x6.mv mq (by simp)).mv m8 (by simp)) game player side nonce okn fun q9 m9 => ⟨(_, _), rfl, ?_⟩
    try dsimp only
    refine result_C (n := 32) szTag dTag (bz.mv m9 (by simp)) (by simp) (by simp [zero32]) (fun v hv => oneBy _ v hv) fun q10 m10 => ?_
    exact hR' (q.via q10 id) (closeN (((Mv.mono m8 (L := [z]) (by simp)).step m9 (by simp)).step m10 (by simp)) (by simp [hz]))
  · exact H (g.via q7 id) (closeN (m.step m7 (by simp)) (by simp [hy1]))

theorem noOpenMove_spec {g : GH} {c : Nat} {v : Option Addr} (x : NoC g c v) (t : List Int) (okt : ShTag.ok t) (game : List Int) (okg : ShTag.ok game) (number : Int) (mv : MoveT) (okm : ShMove.ok mv) (nonce : List Int) (okn : ShTag.ok nonce) {R : Value → Heap → Prop} (H : ∀ g' : GH, Mv [] g g' → R (.int .i64 1) g'.h) :
    HC Tryz.prog F.commit_OpenMove #[.pointer v, .agg (tagA t), .agg (tagA game), .int .i64 number, .agg ⟨ShMove.enc mv⟩, .agg (tagA nonce)] R g.h := by
  refine commit_OpenMove.calls ?_
  unfold commit_OpenMove.body
  have htb := okTagB okt
  have hnb := okTagB okn
  have hgb := okTagB okg
  obtain ⟨y1, hy1, n1⟩ := fresh_exists g [c]
  simp only [List.mem_cons, List.mem_nil_iff, or_false, not_or] at n1
  have m := Mv.refl [y1] g
  refine new_C g y1 fun pm q1 m1 bm => ?_
  refine new_C q1 y1 fun pt q2 m2 bt => ?_
  refine new_C q2 y1 fun pg q3 m3 bg => ?_
  refine new_C q3 y1 fun pp q4 m4 bp => ?_
  refine new_C q4 y1 fun ps q5 m5 bs => ?_
  refine new_C q5 y1 fun pn q6 m6 bn => ?_
  replace m := (((((m.step m1 (by simp)).step m2 (by simp)).step m3 (by simp)).step m4 (by simp)).step m5 (by simp)).step m6 (by simp)
  have bm6 := ((((bm.mv m2 (by simp)).mv m3 (by simp)).mv m4 (by simp)).mv m5 (by simp)).mv m6 (by simp)
  have bt6 := (((bt.mv m3 (by simp)).mv m4 (by simp)).mv m5 (by simp)).mv m6 (by simp)
  have bg6 := ((bg.mv m4 (by simp)).mv m5 (by simp)).mv m6 (by simp)
  have bp6 := (bp.mv m5 (by simp)).mv m6 (by simp)
  have bs6 := bs.mv m6 (by simp)
  have x6 := (((((x.mv m1 (by simp)).mv m2 (by simp)).mv m3 (by simp)).mv m4 (by simp)).mv m5 (by simp)).mv m6 (by simp)
  refine loadAgg_whole bt6 (tagA_size htb.1) ?_
  refine noOpened_spec _ _ (fun q mq R' hR' => ?_) fun q7 m7 => ⟨_, rfl, ?_⟩
  · show HC Tryz.prog F.commit_OpenMove_1 #[.pointer (some ⟨pm, 0, none⟩), .pointer (some ⟨pg, 0, none⟩), .pointer (some ⟨pp, 0, none⟩), .pointer (some ⟨ps, 0, none⟩), .pointer (some ⟨pn, 0, none⟩)] R' q.h
    refine commit_OpenMove_1.calls ?_
    unfold commit_OpenMove_1.body
    obtain ⟨z, hz, nz⟩ := fresh_exists q [c, y1]
    simp only [List.mem_cons, List.mem_nil_iff, or_false, not_or] at nz
    rw [zTag]
    refine new_C q z fun pz q8 m8 bz => ?_
    rw [loadK_C ((bm6.mv mq (by simp)).mv m8 (by simp))]
    refine ⟨v, rfl, ?_⟩
    refine loadAgg_whole ((bg6.mv mq (by simp)).mv m8 (by simp)) (tagA_size hgb.1) ?_
    rw [loadK_C ((bp6.mv mq (by simp)).mv m8 (by simp))]
    refine ⟨number, rfl, ?_⟩
    refine loadAgg_whole ((bs6.mv mq (by simp)).mv m8 (by simp)) (by kernel_rfl) ?_
    refine loadAgg_whole ((bn.mv mq (by simp)).mv m8 (by simp)) (tagA_size hnb.1) ?_
    refine noMove_spec ((x6.mv mq (by simp)).mv m8 (by simp)) game number mv okm nonce okn fun q9 m9 => ⟨(_, _), rfl, ?_⟩
    try dsimp only
    refine result_C (n := 32) szTag dTag (bz.mv m9 (by simp)) (by simp) (by simp [zero32]) (fun v hv => oneBy _ v hv) fun q10 m10 => ?_
    exact hR' (q.via q10 id) (closeN (((Mv.mono m8 (L := [z]) (by simp)).step m9 (by simp)).step m10 (by simp)) (by simp [hz]))
  · exact H (g.via q7 id) (closeN (m.step m7 (by simp)) (by simp [hy1]))

end Go.Proofs.YtafjmdeldejonaaGreat
