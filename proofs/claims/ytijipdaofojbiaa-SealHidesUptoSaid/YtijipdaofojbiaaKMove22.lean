/-
  Covers of moves.
-/
import Derived.Test.YtijipdaofojbiaaKTells22
import Derived.Test.YtijipdaofojbiaaKMsg
set_option linter.unusedSimpArgs false
set_option linter.unusedVariables false
namespace Go.Proofs.Ytijipdaofojbiaa
open Go Go.Ev

def movB : List Int := [109, 111, 118, 101]
def moveBody (x : MoveT) : BodyT := (1, x, false, 0, zero32, zero32, ())
def moveRows (game : List Int) (number : Int) (x : MoveT) : List (List Int) := [movB, game, fourB number, [IntKind.u8.wrap x.1, IntKind.u8.wrap x.2.1, IntKind.u8.wrap x.2.2.1]]
def moveIs (number : Int) (x : MoveT) : Bool := (decide (0 ≤ number) && decide (number ≤ 4294967295)) && bodyOk (moveBody x)
def moveT22 (real : Bool) (asked : List ShThing.T) (game : List Int) (number : Int) (x : MoveT) (nonce : List Int) : List Int × Int × List ShThing.T := someT real asked (moveIs number x) nonce (moveRows game number x)
theorem bldMove22 (a b c : Int) (w : World) : (Instr.build T.api_Body #[(0, .int .i64 1), (1, .agg ⟨ShMove.enc (a, b, c, ())⟩)]).run Try.prog w = .ok (.agg ⟨ShBody.enc (moveBody (a, b, c, ()))⟩) w := by kernel_rfl
theorem okMoveBody {x : MoveT} (h : ShMove.ok x) : ShBody.ok (moveBody x) := ⟨okI (show -9223372036854775808 ≤ (1 : Int) ∧ (1 : Int) ≤ 9223372036854775807 by decide), h, trivial, okI0, ok0, ok0, trivial⟩

set_option maxHeartbeats 4000000 in
theorem move22_spec {g : GH} {c k p : Nat} (hck : ¬ c = k) {real : Bool} {seed : List Int} {asked : List ShThing.T} (x : MakC g c k p real seed asked) (game : List Int) (okg : ShTag.ok game) (number : Int) (mv : MoveT) (okm : ShMove.ok mv) (nonce : List Int) (okn : ShTag.ok nonce) {R : Value → Heap → Prop}
    (H : ∀ g' : GH, Mv [k] g g' → MakC g' c k p real seed (moveT22 real asked game number mv nonce).2.2 → R (.tuple #[.agg (tagA (moveT22 real asked game number mv nonce).1), .int .i64 (moveT22 real asked game number mv nonce).2.1]) g'.h) :
    HC Try.prog F.commit_Move #[.pointer (some ⟨p, 0, none⟩), .agg (tagA game), .int .i64 number, .agg ⟨ShMove.enc mv⟩, .agg (tagA nonce)] R g.h := by
  refine commit_Move.calls ?_
  unfold commit_Move.body
  have htb := okTagB okn
  have hgb := okTagB okg
  obtain ⟨y1, hy1, n1⟩ := fresh_exists g [c, k]
  obtain ⟨y2, hy2, n2⟩ := fresh_exists g [c, k, y1]
  obtain ⟨y3, hy3, n3⟩ := fresh_exists g [c, k, y1, y2]
  obtain ⟨y4, hy4, n4⟩ := fresh_exists g [c, k, y1, y2, y3]
  simp only [List.mem_cons, List.mem_nil_iff, or_false, not_or] at n1 n2 n3 n4
  have m := Mv.refl [k, y1, y2, y3, y4] g
  refine new_C g y4 fun pg q1 e1 bg => ?_
  replace m := m.step e1 (by simp)
  replace x := x.mv e1 (by simp) (by simp)
  refine new_C q1 y1 fun px q2 e2 bx => ?_
  replace m := m.step e2 (by simp)
  replace x := x.mv e2 (by simp) (by simp)
  replace bg := bg.mv e2 (by simp)
  refine new_C q2 y2 fun pn q3 e3 bn => ?_
  replace m := m.step e3 (by simp)
  replace x := x.mv e3 (by simp) (by simp)
  replace bg := bg.mv e3 (by simp)
  replace bx := bx.mv e3 (by simp)
  rw [zTag]
  refine new_C q3 y3 fun pv q4 e4 bv => ?_
  replace m := m.step e4 (by simp)
  replace x := x.mv e4 (by simp) (by simp)
  replace bg := bg.mv e4 (by simp)
  replace bx := bx.mv e4 (by simp)
  replace bn := bn.mv e4 (by simp)
  have hre : ∀ j ∈ [k, y1, y2, y3, y4], j ∈ [k] ∨ Fresh g j := by
    intro j hj
    simp only [List.mem_cons, List.mem_nil_iff, or_false] at hj
    rcases hj with rfl | rfl | rfl | rfl | rfl
    · exact .inl (by simp)
    · exact .inr hy1
    · exact .inr hy2
    · exact .inr hy3
    · exact .inr hy4
  obtain ⟨fr, to, be, u⟩ := mv
  cases u
  have okm' : ShMove.ok (fr, to, be, ()) := okm
  refine joinW_intro (fun s h' => ∃ q : GH, s = moveIs number (fr, to, be, ()) ∧ h' = q.h ∧ Mv [] q4 q) ?_ ?_
  · intro J hJ
    by_cases h0 : number ≥ 0
    · rw [if_pos (by simpa using h0)]
      by_cases h1 : number ≤ 4294967295
      · rw [if_pos (by simpa using h1)]
        refine loadAgg_whole bx (by kernel_rfl) ?_
        refine ⟨_, bldMove22 fr to be, ?_⟩
        refine msgBody_spec q4 (moveBody (fr, to, be, ())) (okMoveBody okm') fun q5 e5 => ⟨_, rfl, ?_⟩
        exact hJ _ _ ⟨q5, by unfold moveIs; rw [decide_eq_true h0, decide_eq_true h1]; rfl, rfl, e5⟩
      · rw [if_neg (by simpa using h1)]
        exact hJ _ _ ⟨q4, by unfold moveIs; rw [decide_eq_false h1]; simp, rfl, Mv.refl _ _⟩
    · rw [if_neg (by simpa using h0)]
      exact hJ _ _ ⟨q4, by unfold moveIs; rw [decide_eq_false h0]; simp, rfl, Mv.refl _ _⟩
  rintro _ _ ⟨q5, rfl, rfl, e5⟩
  replace m := m.step e5 (by simp)
  replace x := x.mv e5 (by simp) (by simp)
  replace bg := bg.mv e5 (by simp)
  replace bx := bx.mv e5 (by simp)
  replace bn := bn.mv e5 (by simp)
  replace bv := bv.mv e5 (by simp)
  refine ⟨by decide, by decide, by decide, ?_⟩
  refine newSl_C q5 y4 rfl fun s6 q6 e6 o6 hn6 hc6 => ?_
  have o6' : OwnC T.uint8 1 q6 y4 s6 ((fourB number).map byV) := o6
  replace m := m.step e6 (by simp)
  replace x := x.mv e6 (by simp) (by simp)
  replace bg := bg.mv e6 (by simp)
  replace bx := bx.mv e6 (by simp)
  replace bn := bn.mv e6 (by simp)
  replace bv := bv.mv e6 (by simp)
  refine sliceArr_C 0 32 rfl rfl (by decide) ?_
  have rg : RdC 1 q6 y4 ⟨some ⟨pg, 0 + 0 * sizeOfT Try.prog T.uint8, none⟩, 32 - 0, 32 - 0⟩ (game.map byV) := by
    refine ⟨⟨by simp [hgb.1], .inr ⟨pg, 0, _, _, _, by simp, bg.blk, fun i hi => ?_⟩⟩, .inr ⟨pg, rfl, lt_of_get bg.blk, bg.col⟩⟩
    simp
  generalize hsg : (⟨some ⟨pg, 0 + 0 * sizeOfT Try.prog T.uint8, none⟩, 32 - 0, 32 - 0⟩ : Sl) = sg at rg
  have hsgc : sg.n ≤ sg.c := by rw [← hsg]; exact Nat.le_refl _
  clear hsg
  simp only [fldK_some]
  refine loadAgg_whole bn (tagA_size htb.1) ?_
  rw [loadK_C bx]
  refine ⟨fr, rfl, ?_⟩
  rw [loadK_C bx]
  refine ⟨to, rfl, ?_⟩
  rw [loadK_C bx]
  refine ⟨be, rfl, ?_⟩
  have r6 := o6'.rd
  have h6c := o6'.cap
  have fin : ∀ (q : GH) (sc sb : Sl), Mv [k, y1, y2, y3, y4] g q → MakC q c k p real seed asked → BlkC q y3 pv (Array.replicate 32 (.int .u8 0)) T.api_Tag → RdC 1 q y4 sg (game.map byV) → RdC 1 q y4 s6 ((fourB number).map byV) → RdC 1 q y4 sc (movB.map byV) → sc.n ≤ sc.c →
      RdC 1 q y4 sb ([IntKind.u8.wrap fr, IntKind.u8.wrap to, IntKind.u8.wrap be].map byV) → sb.n ≤ sb.c →
      newSlK q.h 4 #[(.slice sc.a sc.n sc.c), (.slice sg.a sg.n sg.c), (.slice s6.a s6.n s6.c), (.slice sb.a sb.n sb.c)] T.sl_uint8 (fun (v_12 : Sl) (h : Heap) =>
      callK Try.prog (Kd.pair .agg (.int .i64)) F.commit_some #[(.pointer (some ⟨p, 0, none⟩)), (.bool (moveIs number (fr, to, be, ()))), (.agg (tagA nonce)), (.slice v_12.a v_12.n v_12.c)] (fun (v_13 : Array Value × Int) (h : Heap) =>
      storeAggK (sizeOfT Try.prog T.api_Tag) h (some ⟨pv, 0, none⟩) v_13.1 (fun (h : Heap) =>
      quietK Try.prog .agg (Instr.loadAt T.api_Tag (.pointer (some ⟨pv, 0, none⟩))) (fun (r_14 : Array Value) =>
      R (.tuple #[(.agg r_14), (.int .i64 v_13.2)]) h) h)) h) := by
    intro q sc sb m x bv rg r6 rc hc rb hb
    refine newSl_C q y4 rfl fun sr q' e o hn hcr => ?_
    have rr : RowsC q' y4 sr (moveRows game number (fr, to, be, ())) := by
      refine RowsC.of (sls := [sc, sg, s6, sb]) o.rd rfl fun i sl xs h1 h2 => ?_
      have hi : i < 4 := by
        rcases Nat.lt_or_ge i 4 with h | h
        · exact h
        · rw [List.getElem?_eq_none (by simpa using h)] at h1; cases h1
      have : i = 0 ∨ i = 1 ∨ i = 2 ∨ i = 3 := by omega
      rcases this with rfl | rfl | rfl | rfl <;> (simp only [moveRows, List.getElem?_cons_zero, List.getElem?_cons_succ, Option.some.injEq] at h1 h2; subst h1; subst h2)
      · exact ⟨rc.mv e (by simp), hc⟩
      · exact ⟨rg.mv e (by simp), hsgc⟩
      · exact ⟨r6.mv e (by simp), h6c⟩
      · exact ⟨rb.mv e (by simp), hb⟩
    refine some_spec hck (x.mv e (by simp) (by simp)) _ nonce okn sr _ rr (fun xs hx => ?_) (fun xs hx => ?_) (by simp [moveRows]) fun q2 e2 x2 => ⟨(_, _), rfl, ?_⟩
    · simp only [moveRows, List.mem_cons, List.mem_nil_iff, or_false] at hx
      rcases hx with rfl | rfl | rfl | rfl
      · simp [movB, isByte]
      · exact hgb.2
      · intro z hz
        simp only [fourB, List.mem_cons, List.mem_nil_iff, or_false] at hz
        rcases hz with rfl | rfl | rfl | rfl <;> exact isByte_wrap _
      · intro z hz
        simp only [List.mem_cons, List.mem_nil_iff, or_false] at hz
        rcases hz with rfl | rfl | rfl <;> exact isByte_wrap _
    · simp only [moveRows, List.mem_cons, List.mem_nil_iff, or_false] at hx
      rcases hx with rfl | rfl | rfl | rfl
      · simp [movB]
      · rw [hgb.1]; omega
      · simp [fourB]
      · simp
    · try dsimp only
      refine result_C (n := 32) szTag dTag ((bv.mv e (by simp)).mv e2 (by simp [n3.2.1])) (by simp) (by simp [(someT_tag _ _ _ _ _).1]) (fun v hv => oneBy _ v hv) fun q10 e10 => ?_
      have M := ((m.step e (by simp)).step e2 (by simp)).step e10 (by simp)
      exact H (g.via q10 id) (M.re id hre) ((x2.mv e10 (by simp [Ne.symm n3.1]) (by simp [Ne.symm n3.2.1])).re (φ := id) M (.inl rfl) (.inl rfl))
  clear e1 e2 e3 e4 e5 e6
  refine ⟨?_, ?_⟩
  · refine newSl_C q6 y4 rfl fun s7 q7 e7 o7 hn7 hc7 => ?_
    refine ⟨?_, ?_⟩
    · refine convRd (e := T.uint8) (by kernel_rfl) (by kernel_rfl) o7 (by simp) fun q8 e8 r8 k8 => ?_
      refine newSl_C q8 y4 rfl fun s9 q9 e9 o9 hn9 hc9 => ?_
      exact fin q9 s7 s9 (((m.step e7 (by simp)).step e8 (by simp)).step e9 (by simp)) (((x.mv e7 (by simp) (by simp)).mv e8 (by simp [Ne.symm n4.1]) (by simp [Ne.symm n4.2.1])).mv e9 (by simp) (by simp)) (((bv.mv e7 (by simp)).mv e8 (by simp [Ne.symm n4.2.2.2.2])).mv e9 (by simp)) ((k8 _ _ _ (rg.mv e7 (by simp))).mv e9 (by simp)) ((k8 _ _ _ (r6.mv e7 (by simp))).mv e9 (by simp)) (r8.mv e9 (by simp)) (by omega) o9.rd o9.cap
    · refine newSl_C q7 y4 rfl fun s9 q9 e9 o9 hn9 hc9 => ?_
      refine convRd (e := T.uint8) (by kernel_rfl) (by kernel_rfl) (o7.mv e9 (by simp)) (by simp) fun q8 e8 r8 k8 => ?_
      exact fin q8 s7 s9 (((m.step e7 (by simp)).step e9 (by simp)).step e8 (by simp)) (((x.mv e7 (by simp) (by simp)).mv e9 (by simp) (by simp)).mv e8 (by simp [Ne.symm n4.1]) (by simp [Ne.symm n4.2.1])) (((bv.mv e7 (by simp)).mv e9 (by simp)).mv e8 (by simp [Ne.symm n4.2.2.2.2])) (k8 _ _ _ ((rg.mv e7 (by simp)).mv e9 (by simp))) (k8 _ _ _ ((r6.mv e7 (by simp)).mv e9 (by simp))) r8 (by omega) (k8 _ _ _ o9.rd) o9.cap
  · refine newSl_C q6 y4 rfl fun s9 q9 e9 o9 hn9 hc9 => ?_
    refine newSl_C q9 y4 rfl fun s7 q7 e7 o7 hn7 hc7 => ?_
    refine convRd (e := T.uint8) (by kernel_rfl) (by kernel_rfl) o7 (by simp) fun q8 e8 r8 k8 => ?_
    exact fin q8 s7 s9 (((m.step e9 (by simp)).step e7 (by simp)).step e8 (by simp)) (((x.mv e9 (by simp) (by simp)).mv e7 (by simp) (by simp)).mv e8 (by simp [Ne.symm n4.1]) (by simp [Ne.symm n4.2.1])) (((bv.mv e9 (by simp)).mv e7 (by simp)).mv e8 (by simp [Ne.symm n4.2.2.2.2])) (k8 _ _ _ ((rg.mv e9 (by simp)).mv e7 (by simp))) (k8 _ _ _ ((r6.mv e9 (by simp)).mv e7 (by simp))) r8 (by omega) (k8 _ _ _ (o9.rd.mv e7 (by simp))) o9.cap

end Go.Proofs.Ytijipdaofojbiaa
