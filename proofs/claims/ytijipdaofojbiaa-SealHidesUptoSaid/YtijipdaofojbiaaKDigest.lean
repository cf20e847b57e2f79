/-
  The package digest: contracts of its functions.
-/
import Derived.Test.YtijipdaofojbiaaKSha
import Derived.Test.YtijipdaofojbiaaLay
import Derived.Test.YtijipdaofojbiaaKTag
set_option linter.unusedSimpArgs false
set_option linter.unusedVariables false
namespace Go.Proofs.Ytijipdaofojbiaa
open Go Go.Ev

theorem zU32 : sizeOfT Try.prog T.uint32 = 1 := by kernel_rfl
/-- Eight words, and what stands behind them. -/
def sCells (s : S8) (rest : List Value) : Array Value := ⟨wv s.a :: wv s.b :: wv s.c :: wv s.d :: wv s.e :: wv s.f :: wv s.g :: wv s.i :: rest⟩

set_option maxHeartbeats 1000000 in
theorem step_spec {g : GH} {kp p : Nat} {s : S8} {rest : List Value} {e : TypeId} (hb : BlkC g kp p (sCells s rest) e) (w k : BitVec 32) {R : Value → Heap → Prop}
    (H : ∀ g' : GH, Mv [kp] g g' → BlkC g' kp p (sCells (stepS s w k) rest) e → R (.tuple #[]) g'.h) : HC Try.prog F.digest_state_step #[.pointer (some ⟨p, 0, none⟩), wv w, wv k] R g.h := by
  refine digest_state_step.calls ?_
  unfold digest_state_step.body
  have hb' := hb
  unfold sCells at hb'
  simp only [zU32, derefK_some, idxArrK_some (show (0 : Int) ≤ 7 from by decide) (show (7 : Int) < (8 : Nat) from by decide), idxArrK_some (show (0 : Int) ≤ 4 from by decide) (show (4 : Int) < (8 : Nat) from by decide), idxArrK_some (show (0 : Int) ≤ 5 from by decide) (show (5 : Int) < (8 : Nat) from by decide),
    idxArrK_some (show (0 : Int) ≤ 6 from by decide) (show (6 : Int) < (8 : Nat) from by decide), idxArrK_some (show (0 : Int) ≤ 0 from by decide) (show (0 : Int) < (8 : Nat) from by decide), idxArrK_some (show (0 : Int) ≤ 1 from by decide) (show (1 : Int) < (8 : Nat) from by decide), idxArrK_some (show (0 : Int) ≤ 2 from by decide) (show (2 : Int) < (8 : Nat) from by decide), Int.reduceToNat, Nat.mul_one, Nat.zero_add, Nat.add_zero]
  simp only [loadK_C hb', derefK_some, fldK_some, Nat.zero_add, Nat.add_zero, Nat.reduceAdd, inj_int, inj_bool, inj_str, inj_ptr, inj_map, inj_slice, exists_eq_left, List.getElem?_toArray, List.getElem?_cons_zero, List.getElem?_cons_succ, Option.isNone_some, Option.isNone_none, Bool.not_true, Bool.not_false, Bool.false_eq_true, if_true, if_false, reduceIte, eq_self, not_true_eq_false, not_false_eq_true, bne_self_eq_false, beq_self_eq_true, decide_true, decide_false, decide_eq_true_eq, beq_iff_eq, bne_iff_ne, ne_eq]
  have hx : kp + 1 ≠ kp := by omega
  refine newSl_C g (kp + 1) rfl fun s1 q1 m1 o1 hn1 _ => ?_
  have b1 := hb'.mv m1 (by simp)
  refine Mix_spec s.e s1 [6, 11, 25] o1.rd.rd (by decide) (by decide) ⟨_, rfl, ?_⟩
  try dsimp only
  refine ⟨stillK_C b1 (by simp [Kd.inj]), stillK_C b1 (by simp [Kd.inj]), stillK_C b1 (by simp [Kd.inj]), stillK_C b1 (by simp [Kd.inj]), ?_⟩
  refine Choose_spec s.e s.f s.g ⟨_, rfl, stillK_C b1 (by simp [Kd.inj]), ?_⟩
  try dsimp only
  refine newSl_C q1 (kp + 1) rfl fun s2 q2 m2 o2 hn2 _ => ?_
  have b2 := b1.mv m2 (by simp)
  refine Sum_spec s2 [s.i, mixB s.e [6, 11, 25], s.g ^^^ (s.e &&& (s.f ^^^ s.g)), k, w] o2.rd.rd (by simp) ⟨_, rfl, ?_⟩
  try dsimp only
  simp only [loadK_C b2, derefK_some, fldK_some, Nat.zero_add, Nat.add_zero, Nat.reduceAdd, inj_int, inj_bool, inj_str, inj_ptr, inj_map, inj_slice, exists_eq_left, List.getElem?_toArray, List.getElem?_cons_zero, List.getElem?_cons_succ, Option.isNone_some, Option.isNone_none, Bool.not_true, Bool.not_false, Bool.false_eq_true, if_true, if_false, reduceIte, eq_self, not_true_eq_false, not_false_eq_true, bne_self_eq_false, beq_self_eq_true, decide_true, decide_false, decide_eq_true_eq, beq_iff_eq, bne_iff_ne, ne_eq]
  refine newSl_C q2 (kp + 1) rfl fun s3 q3 m3 o3 hn3 _ => ?_
  have b3 := b2.mv m3 (by simp)
  refine Mix_spec s.a s3 [2, 13, 22] o3.rd.rd (by decide) (by decide) ⟨_, rfl, ?_⟩
  try dsimp only
  refine ⟨stillK_C b3 (by simp [Kd.inj]), stillK_C b3 (by simp [Kd.inj]), stillK_C b3 (by simp [Kd.inj]), stillK_C b3 (by simp [Kd.inj]), stillK_C b3 (by simp [Kd.inj]), stillK_C b3 (by simp [Kd.inj]), ?_⟩
  rw [andV s.a s.b, andV s.a s.c, orV (s.a &&& s.b) (s.a &&& s.c), andV s.b s.c, orV ((s.a &&& s.b) ||| (s.a &&& s.c)) (s.b &&& s.c)]
  refine newSl_C q3 (kp + 1) rfl fun s4 q4 m4 o4 hn4 _ => ?_
  have b4 := b3.mv m4 (by simp)
  refine Sum_spec s4 [mixB s.a [2, 13, 22], majB s.a s.b s.c] o4.rd.rd (by simp) ⟨_, rfl, ?_⟩
  try dsimp only
  refine sliceArr_C 1 8 ⟨rfl, by decide⟩ rfl (by decide) ?_
  refine sliceArr_C 0 7 rfl ⟨rfl, by decide⟩ (by decide) ?_
  have rd : Rd 1 q4.h ⟨some ⟨p, 0 + 0 * 1, none⟩, 7 - 0, 8 - 0⟩ [wv s.a, wv s.b, wv s.c, wv s.d, wv s.e, wv s.f, wv s.g] := ⟨rfl, .inr ⟨p, 0, _, _, _, rfl, b4.blk, fun i hi => by
    simp only [List.length_cons, List.length_nil] at hi
    rcases i with _ | _ | _ | _ | _ | _ | _ | i <;> first | rfl | omega⟩⟩
  refine copy_C (e := T.uint32) (by kernel_rfl) (by kernel_rfl) b4 (s := ⟨some ⟨p, 0 + 1 * 1, none⟩, 8 - 1, 8 - 1⟩) rfl (by simp) rd (by simp [Value.oneCell']) fun q5 m5 b5 => ?_
  have b5' : BlkC q5 kp p ⟨wv s.a :: wv s.a :: wv s.b :: wv s.c :: wv s.d :: wv s.e :: wv s.f :: wv s.g :: rest⟩ e := by
    have : overA ⟨wv s.a :: wv s.b :: wv s.c :: wv s.d :: wv s.e :: wv s.f :: wv s.g :: wv s.i :: rest⟩ (0 + 1 * 1) ([wv s.a, wv s.b, wv s.c, wv s.d, wv s.e, wv s.f, wv s.g].take (min (7 - 0) (8 - 1))) = ⟨wv s.a :: wv s.a :: wv s.b :: wv s.c :: wv s.d :: wv s.e :: wv s.f :: wv s.g :: rest⟩ := by
      unfold overA; simp
    rw [← this]; exact b5
  simp only [loadK_C b5', derefK_some, fldK_some, Nat.zero_add, Nat.add_zero, Nat.reduceAdd, inj_int, inj_bool, inj_str, inj_ptr, inj_map, inj_slice, exists_eq_left, List.getElem?_toArray, List.getElem?_cons_zero, List.getElem?_cons_succ, Option.isNone_some, Option.isNone_none, Bool.not_true, Bool.not_false, Bool.false_eq_true, if_true, if_false, reduceIte, eq_self, not_true_eq_false, not_false_eq_true, bne_self_eq_false, beq_self_eq_true, decide_true, decide_false, decide_eq_true_eq, beq_iff_eq, bne_iff_ne, ne_eq]
  refine store_C b5' (by simp) rfl fun q6 m6 b6 => ?_
  refine store_C b6 (by simp) rfl fun q7 m7 b7 => ?_
  refine H q7 (((((((m1.mono (by simp) : Mv [kp] g q1).step m2 (by simp)).step m3 (by simp)).step m4 (by simp)).step m5 (by simp)).step m6 (by simp)).step m7 (by simp)) ?_
  have e1 : IntKind.u32.wrap (((mS s w k).toNat : Int) + ((nS s).toNat : Int)) = ((mS s w k + nS s).toNat : Int) := addBv _ _
  have e2 : IntKind.u32.wrap ((s.d.toNat : Int) + ((mS s w k).toNat : Int)) = ((s.d + mS s w k).toNat : Int) := addBv _ _
  have b8 : BlkC q7 kp p ⟨.int .u32 (IntKind.u32.wrap (((mS s w k).toNat : Int) + ((nS s).toNat : Int))) :: wv s.a :: wv s.b :: wv s.c :: .int .u32 (IntKind.u32.wrap ((s.d.toNat : Int) + ((mS s w k).toNat : Int))) :: wv s.e :: wv s.f :: wv s.g :: rest⟩ e := by
    have b9 := b7
    simp only [List.setIfInBounds_toArray, List.set_cons_succ, List.set_cons_zero] at b9
    exact b9
  rw [e1, e2] at b8
  exact b8

theorem zK : zerosOf Try.prog T.a64_uint32 = Array.replicate 64 (.int .u32 0) := by kernel_rfl
theorem zState : zerosOf Try.prog T.digest_state = Array.replicate 8 (.int .u32 0) := by kernel_rfl
theorem szState : sizeOfT Try.prog T.digest_state = 8 := by kernel_rfl
theorem szK : sizeOfT Try.prog T.a64_uint32 = 64 := by kernel_rfl
theorem oneW (ws : List (BitVec 32)) : ∀ v ∈ ws.map wv, v.oneCell' = true := by intro v hv; obtain ⟨_, _, rfl⟩ := List.mem_map.1 hv; rfl

theorem dState (p : Option Addr) : doesLoad Try.prog T.digest_state (.pointer p) = .quietP fun h K => loadAggK (sizeOfT Try.prog T.digest_state) h p fun cs => K (.agg cs) := by kernel_rfl
theorem dK (p : Option Addr) : doesLoad Try.prog T.a64_uint32 (.pointer p) = .quietP fun h K => loadAggK (sizeOfT Try.prog T.a64_uint32) h p fun cs => K (.agg cs) := by kernel_rfl
theorem begun_spec (g : GH) {R : Value → Heap → Prop} (H : ∀ g' : GH, Mv [] g g' → R (.agg (sCells initS [])) g'.h) : HC Try.prog F.digest_begun #[] R g.h := by
  refine digest_begun.calls ?_
  unfold digest_begun.body
  rw [zState]
  refine new_C g.base 1 fun p q1 m1 b1 => ?_
  refine ⟨sCells initS [], fun w => by kernel_rfl, ?_⟩
  refine result_C (n := 8) szState dState b1 (by simp) rfl (by simp [sCells, Value.oneCell']) fun q2 m2 => ?_
  have m := (Mv.refl [1] g.base).step m1 (by simp) |>.step m2 (by simp)
  exact H (g.via q2 fun _ => 0) (m.via (by simp) _)

set_option maxRecDepth 100000 in
theorem constants_spec (g : GH) {R : Value → Heap → Prop} (H : ∀ g' : GH, Mv [] g g' → R (.agg ⟨constK.map wv⟩) g'.h) : HC Try.prog F.digest_constants #[] R g.h := by
  refine digest_constants.calls ?_
  unfold digest_constants.body
  rw [zK]
  refine new_C g.base 1 fun p q1 m1 b1 => ?_
  refine ⟨⟨constK.map wv⟩, fun w => by kernel_rfl, ?_⟩
  refine result_C (n := 64) szK dK b1 (by simp) (by simp [constK]) (by intro v hv; exact oneW _ v hv) fun q2 m2 => ?_
  have m := (Mv.refl [1] g.base).step m1 (by simp) |>.step m2 (by simp)
  exact H (g.via q2 fun _ => 0) (m.via (by simp) _)

theorem wordsOf64 (bs : List Int) (h : bs.length = 64) : (wordsOf bs).length = 16 := by rw [wordsOf_length]; omega

theorem roundsS_succ (w : List (BitVec 32)) (v : S8) (n : Nat) (hw : n < w.length) (hk : n < constK.length) : roundsS w v (n + 1) = stepS (roundsS w v n) (w[n]'hw) (constK[n]'hk) := by
  rw [roundsS]; simp [List.getD, List.getElem?_eq_getElem hw, List.getElem?_eq_getElem hk]

/-- The words so far, and noughts behind them. -/
def wCells (ws : List (BitVec 32)) : Array Value := ⟨ws.map wv ++ List.replicate (64 - ws.length) (.int .u32 0)⟩
theorem wCells_size (ws : List (BitVec 32)) (h : ws.length ≤ 64) : (wCells ws).size = 64 := by simp [wCells]; omega
theorem wCells_get (ws : List (BitVec 32)) (i : Nat) (h : i < ws.length) : (wCells ws)[i]? = some (Kd.inj (.int .u32) ((ws.getD i 0).toNat : Int)) := by
  simp only [wCells, List.getElem?_toArray]
  rw [List.getElem?_append_left (by simpa using h), List.getElem?_map, List.getElem?_eq_getElem h, List.getD, List.getElem?_eq_getElem h]; rfl
theorem wCells_set (ws : List (BitVec 32)) (x : BitVec 32) (h : ws.length < 64) : (wCells ws).setIfInBounds ws.length (wv x) = wCells (ws ++ [x]) := by
  unfold wCells
  rw [List.setIfInBounds_toArray, List.set_append_right _ _ (by simp), List.length_map, Nat.sub_self]
  obtain ⟨k, hk⟩ : ∃ k, 64 - ws.length = k + 1 := ⟨64 - ws.length - 1, by omega⟩
  rw [hk, List.replicate_succ, List.set_cons_zero, List.map_append, List.length_append, List.length_cons, List.length_nil, show 64 - (ws.length + (0 + 1)) = k from by omega]
  simp

set_option maxHeartbeats 2000000 in
theorem take_spec {g : GH} {kp p c : Nat} {s : S8} {rest : List Value} {e : TypeId} (hk0 : kp ≠ c) (hb : BlkC g kp p (sCells s rest) e) (b : Sl) (bs : List Int) (hr : RdC 1 g c b (bs.map byV)) (h64 : bs.length = 64) (hby : ∀ x ∈ bs, isByte x) {R : Value → Heap → Prop}
    (H : ∀ g' : GH, Mv [kp] g g' → BlkC g' kp p (sCells (compS s bs) rest) e → R (.tuple #[]) g'.h) : HC Try.prog F.digest_state_take #[.pointer (some ⟨p, 0, none⟩), .slice b.a b.n b.c] R g.h := by
  refine digest_state_take.calls (b1 := b) ?_
  unfold digest_state_take.body
  obtain ⟨x, hx, hxn⟩ := fresh_exists g [kp, c]
  obtain ⟨y, hy, hyn⟩ := fresh_exists g [kp, c, x]
  simp only [List.mem_cons, List.mem_nil_iff, or_false, not_or] at hxn hyn
  have m : Mv [kp, x, y] g g := Mv.refl _ _
  rw [zK]
  refine new_C g x fun w q1 m1 b1 => ?_
  replace m := m.step m1 (by simp)
  refine Words_spec b bs (hr.mv m1 (by simp)).rd hby (by omega) fun ws h2 er hw x2 hfr => ⟨(ws, er), rfl, ?_⟩
  rw [if_pos (by omega)] at hw
  obtain ⟨rfl, hw⟩ := hw
  have m2 := GH.to_ext (g := q1) (h' := h2) 0 x2
  generalize hq2 : q1.to h2 0 = q2 at m2
  have hh2 : h2 = q2.h := by rw [← hq2]; rfl
  rw [hh2] at hw ⊢
  replace m := m.step m2 (by simp)
  have b2 := b1.mv m2 (by simp)
  have hwl := wordsOf64 bs h64
  have hwn := hw.rd.len
  simp only [List.length_map] at hwn
  try dsimp only
  refine sliceArr_C 0 64 rfl rfl (by decide) ?_
  refine copy_C (e := T.uint32) (by kernel_rfl) (by kernel_rfl) b2 (s := ⟨some ⟨w, 0 + 0 * _, none⟩, 64 - 0, 64 - 0⟩) (by rw [Nat.zero_mul]) (by simp) hw.rd (oneW _) fun q3 m3 b3 => ?_
  replace m := m.step m3 (by simp)
  have b3' : BlkC q3 x w (wCells (schedTo (wordsOf bs) 0)) T.a64_uint32 := by
    have : overA (Array.replicate 64 (.int .u32 0)) 0 (((wordsOf bs).map wv).take (min ws.n (64 - 0))) = wCells (schedTo (wordsOf bs) 0) := by
      rw [hwn, hwl, List.take_of_length_le (by simp [hwl])]
      unfold overA wCells schedTo
      simp [hwl]
    rw [← this]; exact b3
  have hbk : BlkC q3 kp p (sCells s rest) e := ((hb.mv m1 (by simp)).mv m2 (by simp)).mv m3 (by simp [Ne.symm hxn.1])
  clear b3 b2 b1
  refine loopW_rule (fun st h' => ∃ (n : Nat) (q : GH), n ≤ 48 ∧ st = ((16 + n : Nat) : Int) ∧ h' = q.h ∧ Mv [kp, x, y] g q ∧ BlkC q x w (wCells (schedTo (wordsOf bs) n)) T.a64_uint32 ∧ BlkC q kp p (sCells s rest) e) (fun st => 64 - st.toNat)
    ⟨0, q3, by omega, rfl, rfl, m, b3', hbk⟩ ?_
  clear m hbk b3' hw
  rintro X _ _ ⟨n, q, hn, rfl, rfl, m, bw, bk⟩ hX
  have hsl := schedTo_length (wordsOf bs) n
  rw [hwl] at hsl
  by_cases hlt : n < 48
  · rw [if_pos (by simp; omega)]
    rw [wrapI64 (n := ((16 + n : Nat) : Int) - 15) (by omega) (by omega), wrapI64 (n := ((16 + n : Nat) : Int) - 2) (by omega) (by omega), wrapI64 (n := ((16 + n : Nat) : Int) - 16) (by omega) (by omega), wrapI64 (n := ((16 + n : Nat) : Int) - 7) (by omega) (by omega)]
    rw [show ((16 + n : Nat) : Int) - 15 = ((16 + n - 15 : Nat) : Int) from by omega, show ((16 + n : Nat) : Int) - 2 = ((16 + n - 2 : Nat) : Int) from by omega, show ((16 + n : Nat) : Int) - 16 = ((16 + n - 16 : Nat) : Int) from by omega, show ((16 + n : Nat) : Int) - 7 = ((16 + n - 7 : Nat) : Int) from by omega]
    generalize hsw : schedTo (wordsOf bs) n = sw at bw hsl
    refine idxArr_N zU32 (by omega) (idxArr_N zU32 (by omega) ?_)
    rw [Nat.zero_add, loadK_C bw]
    refine ⟨_, wCells_get sw _ (by omega), ?_⟩
    rw [loadK_C bw]
    refine ⟨_, wCells_get sw _ (by omega), ?_⟩
    refine newSl_C q y rfl fun s1 r1 n1 o1 _ _ => ?_
    have bw1 := bw.mv n1 (by simp)
    refine Mix_spec (sw.getD (16 + n - 15) 0) s1 [7, 18] o1.rd.rd (by decide) (by decide) ⟨_, rfl, ?_⟩
    refine ⟨stillK_C bw1 (wCells_get sw _ (by omega)), ?_⟩
    refine Shift_spec (sw.getD (16 + n - 15) 0) 3 ⟨_, rfl, ?_⟩
    try dsimp only
    refine idxArr_N zU32 (by omega) (idxArr_N zU32 (by omega) ?_)
    rw [Nat.zero_add, loadK_C bw1]
    refine ⟨_, wCells_get sw _ (by omega), ?_⟩
    rw [loadK_C bw1]
    refine ⟨_, wCells_get sw _ (by omega), ?_⟩
    refine newSl_C r1 y rfl fun s2 r2 n2 o2 _ _ => ?_
    have bw2 := bw1.mv n2 (by simp)
    refine Mix_spec (sw.getD (16 + n - 2) 0) s2 [17, 19] o2.rd.rd (by decide) (by decide) ⟨_, rfl, ?_⟩
    refine ⟨stillK_C bw2 (wCells_get sw _ (by omega)), ?_⟩
    refine Shift_spec (sw.getD (16 + n - 2) 0) 10 ⟨_, rfl, ?_⟩
    try dsimp only
    refine idxArr_N zU32 (by omega) (idxArr_N zU32 (by omega) ?_)
    rw [Nat.zero_add, Nat.zero_add, loadK_C bw2]
    refine ⟨_, wCells_get sw _ (by omega), ?_⟩
    rw [loadK_C bw2]
    refine ⟨_, wCells_get sw _ (by omega), ?_⟩
    rw [xorV (mixB (sw.getD (16 + n - 15) 0) [7, 18]) (shiftB (sw.getD (16 + n - 15) 0) 3), xorV (mixB (sw.getD (16 + n - 2) 0) [17, 19]) (shiftB (sw.getD (16 + n - 2) 0) 10)]
    refine newSl_C r2 y rfl fun s3 r3 n3 o3 _ _ => ?_
    have bw3 := bw2.mv n3 (by simp)
    refine Sum_spec s3 [sw.getD (16 + n - 16) 0, smallB (sw.getD (16 + n - 15) 0) 7 18 3, sw.getD (16 + n - 7) 0, smallB (sw.getD (16 + n - 2) 0) 17 19 10] o3.rd.rd (by simp) ⟨_, rfl, ?_⟩
    try dsimp only
    refine idxArr_N zU32 (by omega) ?_
    rw [Nat.zero_add]
    refine store_C bw3 (by rw [wCells_size _ (by omega)]; omega) rfl fun r4 n4 bw4 => ?_
    rw [wrapSucc (by omega)]
    refine hX _ _ ⟨n + 1, r4, by omega, by simp; omega, rfl, (((m.step n1 (by simp)).step n2 (by simp)).step n3 (by simp)).step n4 (by simp), ?_, (((bk.mv n1 (by simp)).mv n2 (by simp)).mv n3 (by simp)).mv n4 (by simp [Ne.symm hxn.1])⟩ (by simp; omega)
    rw [schedTo, hsw, hwl, ← wCells_set sw _ (by omega), hsl]
    exact bw4
  · rw [if_neg (by simp; omega)]
    have hn' : n = 48 := by omega
    subst hn'
    generalize hsw : schedTo (wordsOf bs) 48 = sw at bw hsl
    rw [derefK_some, loadAggK_C bk]
    refine ⟨by rw [szState]; simp [sCells], ?_⟩
    have hex : (sCells s rest).extract 0 (0 + sizeOfT Try.prog T.digest_state) = sCells s [] := by rw [szState]; simp [sCells]
    rw [hex, zState]
    refine new_C q y fun wp r1 n1 bp1 => ?_
    have hbp : overA (Array.replicate 8 (.int .u32 0)) 0 (sCells s []).toList = sCells s [] := overA_all (by simp [sCells])
    refine storeAgg_C bp1 (by rw [szState]; rfl) (by rw [szState]; simp) (by simp [sCells, Value.oneCell']) fun r2 n2 bp2 => ?_
    rw [hbp] at bp2
    replace m := (m.step n1 (by simp)).step n2 (by simp)
    refine constants_spec r2 fun r3 n3 => ⟨_, rfl, ?_⟩
    replace m := m.step n3 (by simp)
    have bk3 := ((bk.mv n1 (by simp)).mv n2 (by simp [Ne.symm hyn.1])).mv n3 (by simp)
    have bw3 := ((bw.mv n1 (by simp)).mv n2 (by simp [Ne.symm hyn.2.2])).mv n3 (by simp)
    have bp3 := bp2.mv n3 (by simp)
    clear hX bk bw bp1 bp2
    have hck : constK.length = 64 := rfl
    try dsimp only
    refine loopW_rule (fun st h' => ∃ (n : Nat) (q : GH), n ≤ 64 ∧ st = (n : Int) ∧ h' = q.h ∧ Mv [kp, x, y] g q ∧ BlkC q x w (wCells sw) T.a64_uint32 ∧ BlkC q kp p (sCells (roundsS sw s n) rest) e ∧ BlkC q y wp (sCells s []) T.digest_state) (fun st => 64 - st.toNat)
      ⟨0, r3, by omega, rfl, rfl, m, bw3, bk3, bp3⟩ ?_
    clear m bw3 bk3 bp3
    rintro X _ _ ⟨n, q, hn, rfl, rfl, m, bw, bk, bp⟩ hX
    by_cases hlt : n < 64
    · rw [if_pos (by simp; omega)]
      refine ⟨⟨by omega, by omega⟩, (constK[n]'(by omega)).toNat, ?_, ?_⟩
      · rw [zU32, Nat.mul_one, Int.toNat_natCast, List.getElem?_toArray, List.getElem?_map, List.getElem?_eq_getElem (by omega)]; rfl
      refine idxArr_N zU32 (by omega) ?_
      rw [Nat.zero_add, loadK_C bw]
      refine ⟨_, wCells_get sw _ (by omega), ?_⟩
      have hsn : sw.getD n 0 = sw[n]'(by omega) := by simp [List.getD, List.getElem?_eq_getElem (show n < sw.length by omega)]
      rw [hsn]
      refine step_spec bk _ _ fun r1 n1 bk1 => ⟨(), rfl, ?_⟩
      rw [wrapSucc (by omega)]
      rw [← roundsS_succ sw s n (by omega) (by omega)] at bk1
      exact hX _ _ ⟨n + 1, r1, by omega, rfl, rfl, m.step n1 (by simp), bw.mv n1 (by simp [hxn.1]), bk1, bp.mv n1 (by simp [hyn.1])⟩ (by simp; omega)
    · rw [if_neg (by simp; omega)]
      have hn' : n = 64 := by omega
      subst hn'
      clear hX
      have hcomp : compS s bs = s.add (roundsS sw s 64) := by unfold compS; rw [hsw]
      generalize roundsS sw s 64 = rr at bk hcomp
      rw [hcomp] at H
      have hL : ∀ (i : Nat) (a b : S8), i < 8 → (a.add b).list[i]? = some ((b.list.getD i 0) + (a.list.getD i 0)) := by
        intro i a b hi
        have hc : ∀ u v : BitVec 32, u + v = v + u := BitVec.add_comm
        rcases i with _ | _ | _ | _ | _ | _ | _ | _ | i <;> first | (simp [S8.add, S8.list, hc]; done) | omega
      have hl8 : ∀ a : S8, a.list.length = 8 := fun _ => rfl
      refine loopW_rule (fun st h' => ∃ (n : Nat) (q : GH), n ≤ 8 ∧ st = (n : Int) ∧ h' = q.h ∧ Mv [kp, x, y] g q ∧ BlkC q kp p ⟨((s.add rr).list.take n ++ rr.list.drop n).map wv ++ rest⟩ e ∧ BlkC q y wp (sCells s []) T.digest_state) (fun st => 8 - st.toNat)
        ⟨0, q, by omega, rfl, rfl, m, bk, bp⟩ ?_
      clear m bk bp
      rintro X _ _ ⟨n, q, hn, rfl, rfl, m, bk, bp⟩ hX
      by_cases hlt : n < 8
      · rw [if_pos (by simp; omega)]
        rw [derefK_some]
        refine idxArr_N zU32 (by omega) (idxArr_N zU32 (by omega) ?_)
        rw [derefK_some, Nat.zero_add, loadK_C bk]
        refine ⟨((rr.list.getD n 0).toNat : Int), ?_, ?_⟩
        · simp only [List.getElem?_toArray]
          rw [List.getElem?_append_left (by simp [hl8]; omega), List.map_append, List.getElem?_append_right (by simp [hl8]; omega), List.length_map, List.length_take, hl8, Nat.min_eq_left hn, Nat.sub_self, List.getElem?_map, List.getElem?_drop, Nat.add_zero, List.getElem?_eq_getElem (by rw [hl8]; exact hlt)]
          simp [List.getD, List.getElem?_eq_getElem (show n < rr.list.length by rw [hl8]; exact hlt), Kd.inj]
        rw [loadK_C bp]
        refine ⟨((s.list.getD n 0).toNat : Int), ?_, ?_⟩
        · have : sCells s [] = ⟨s.list.map wv⟩ := rfl
          rw [this, List.getElem?_toArray, List.getElem?_map, List.getElem?_eq_getElem (by rw [hl8]; exact hlt)]
          simp [List.getD, List.getElem?_eq_getElem (show n < s.list.length by rw [hl8]; exact hlt), Kd.inj]
        refine idxArr_N zU32 (by omega) ?_
        rw [Nat.zero_add]
        refine store_C bk (by simp [hl8]; omega) rfl fun r1 n1 bk1 => ?_
        rw [wrapSucc (by omega)]
        refine hX _ _ ⟨n + 1, r1, by omega, rfl, rfl, m.step n1 (by simp), ?_, bp.mv n1 (by simp [hyn.1])⟩ (by simp; omega)
        rw [addBv] at bk1
        have h1 := hL n s rr hlt
        obtain ⟨h2, h3⟩ := List.getElem?_eq_some_iff.1 h1
        rw [← h3, List.setIfInBounds_toArray, List.set_append_left _ _ (by simp [hl8]; omega), List.map_append, List.set_append_right _ _ (by simp [hl8]; omega), List.length_map, List.length_take, hl8, Nat.min_eq_left hn, Nat.sub_self] at bk1
        have h4 : rr.list.drop n = rr.list[n]'(by rw [hl8]; exact hlt) :: rr.list.drop (n + 1) := List.drop_eq_getElem_cons (by rw [hl8]; exact hlt)
        rw [h4, List.map_cons, List.set_cons_zero] at bk1
        rw [List.take_succ_eq_append_getElem h2, List.map_append, List.map_append]
        simpa using bk1
      · rw [if_neg (by simp; omega)]
        have hn' : n = 8 := by omega
        subst hn'
        have b1 := bk.re m (φ := reTwo x y 0 0) (.inl (reTwo_ne (Ne.symm hxn.1) (Ne.symm hyn.1)))
        rw [reTwo_ne (Ne.symm hxn.1) (Ne.symm hyn.1)] at b1
        refine H (g.via q (reTwo x y 0 0)) (m.re _ (by simp [hx, hy])) ?_
        have : sCells (s.add rr) rest = ⟨((s.add rr).list.take 8 ++ rr.list.drop 8).map wv ++ rest⟩ := rfl
        rw [this]
        exact b1

/-! ### The hasher -/

abbrev hRest (l : Sl) (n : Nat) : List Value := [.slice l.a l.n l.c, .int .i64 n, .bool true]
/-- A hasher that took bytes. -/
def HashC (g : GH) (kp kl p : Nat) (bs : List Int) : Prop :=
  ∃ l : Sl, BlkC g kp p (sCells (compAll initS bs) (hRest l bs.length)) T.digest_Hasher ∧ OwnC T.uint8 1 g kl l ((tailOf bs).map byV) ∧ ∀ x ∈ bs, isByte x
theorem HashC.mv {K : List Nat} {g g' : GH} {kp kl p : Nat} {bs : List Int} (r : HashC g kp kl p bs) (m : Mv K g g') (h1 : kp ∉ K) (h2 : kl ∉ K) : HashC g' kp kl p bs := by
  obtain ⟨l, b, o, r⟩ := r
  exact ⟨l, b.mv m h1, o.mv m h2, r⟩
theorem HashC.via {K : List Nat} {g q : GH} {kp kl p : Nat} {bs : List Int} (r : HashC q kp kl p bs) (m : Mv K g.base q) (h1 : kp ≠ 0) (h2 : kl ≠ 0) (φ : Nat → Nat) : HashC (g.via q φ) (φ kp) (φ kl) p bs := by
  obtain ⟨l, b, o, r⟩ := r
  exact ⟨l, b.via m h1 φ, o.via m h2 φ, r⟩
theorem HashC.base {g : GH} {kp kl p : Nat} {bs : List Int} (r : HashC g kp kl p bs) : HashC g.base 0 0 p bs := by
  obtain ⟨l, b, o, r⟩ := r
  exact ⟨l, b.base, o.base, r⟩

theorem build_Hasher (w : World) : (Instr.build T.digest_Hasher #[(0, .agg (sCells initS [])), (3, .bool true)]).run Try.prog w = .ok (.agg (sCells initS (hRest ⟨none, 0, 0⟩ 0))) w := by kernel_rfl

theorem NewHash_spec (g : GH) (kp kl : Nat) {R : Value → Heap → Prop} (H : ∀ (p : Nat) (g' : GH), Mv [] g g' → HashC g' kp kl p [] → R (.pointer (some ⟨p, 0, none⟩)) g'.h) : HC Try.prog F.digest_New #[] R g.h := by
  refine digest_New.calls ?_
  unfold digest_New.body
  refine begun_spec g fun g1 m1 => ⟨_, rfl, ?_⟩
  refine ⟨_, build_Hasher, ?_⟩
  refine new_C g1 kp fun p g2 m2 b2 => ?_
  exact H p g2 ((m1.trans m2).mono (by simp)) ⟨⟨none, 0, 0⟩, b2, OwnC.nil _ _ _ _, by simp⟩

set_option maxHeartbeats 1000000 in
theorem all_spec {g : GH} {kp kl c p : Nat} {bs : List Int} (hk : kp ≠ kl) (hcp : c ≠ kp) (hcl : c ≠ kl) (hd : HashC g kp kl p bs) (rows : Sl) (xss : List (List Int)) (hr : RowsC g c rows xss) (hby : ∀ xs ∈ xss, ∀ x ∈ xs, isByte x) (ht : bs.length + total xss ≤ 100000000) (hl : xss.length ≤ 1000000000000)
    {R : Value → Heap → Prop} (H : ∀ g' : GH, Mv [kp, kl] g g' → HashC g' kp kl p (bs ++ xss.flatten) → R (.tuple #[]) g'.h) : HC Try.prog F.digest_Hasher_all #[.pointer (some ⟨p, 0, none⟩), .slice rows.a rows.n rows.c] R g.h := by
  refine digest_Hasher_all.calls (rows1 := rows) ?_
  unfold digest_Hasher_all.body
  have hn := hr.len
  refine loopW_rule (fun st h' => ∃ (i : Nat) (q : GH), i ≤ xss.length ∧ st = (i : Int) ∧ h' = q.h ∧ Mv [kp, kl] g q ∧ HashC q kp kl p (bs ++ (xss.take i).flatten)) (fun st => xss.length - st.toNat)
    ⟨0, g, by omega, rfl, rfl, Mv.refl _ _, by simpa using hd⟩ ?_
  rintro X _ _ ⟨i, q, hi, rfl, rfl, m, l, hb, ho, hbb⟩ hX
  have hle := total_le (xss := xss) i
  have hBl : (bs ++ (xss.take i).flatten).length = bs.length + total (xss.take i) := by rw [List.length_append]; rfl
  by_cases hlt : i < xss.length
  · rw [if_pos (by simp [hn]; omega)]
    have h2 := total_take hlt
    have h3 := total_le (xss := xss) (i + 1)
    refine (hr.mv m (by simp [hcp, hcl])).idx (by kernel_rfl) hlt fun s1 r1 _ => ?_
    have h1 := r1.len
    simp only [List.length_map] at h1
    generalize hB : bs ++ (xss.take i).flatten = B at hb ho hbb hBl
    have hl1 := ho.len
    simp only [List.length_map] at hl1
    have htl := tailOf_length B
    unfold sCells at hb
    simp only [derefK_some, fldK_some, Nat.zero_add, Nat.add_zero, Nat.reduceAdd, inj_int, inj_bool, inj_str, inj_ptr, inj_map, inj_slice, exists_eq_left, List.getElem?_toArray, List.getElem?_cons_zero, List.getElem?_cons_succ, Option.isNone_some, Option.isNone_none, Bool.not_true, Bool.not_false, Bool.false_eq_true, if_true, if_false, reduceIte, eq_self, not_true_eq_false, not_false_eq_true, bne_self_eq_false, beq_self_eq_true, decide_true, decide_false, decide_eq_true_eq, beq_iff_eq, bne_iff_ne, ne_eq, loadK_C hb]
    rw [wrapI64 (by omega) (by omega)]
    refine store_C hb (by simp) rfl fun q1 m1 b1 => ?_
    simp only [List.setIfInBounds_toArray, List.set_cons_succ, List.set_cons_zero] at b1
    simp only [derefK_some, fldK_some, Nat.zero_add, Nat.add_zero, Nat.reduceAdd, inj_int, inj_bool, inj_str, inj_ptr, inj_map, inj_slice, exists_eq_left, List.getElem?_toArray, List.getElem?_cons_zero, List.getElem?_cons_succ, Option.isNone_some, Option.isNone_none, Bool.not_true, Bool.not_false, Bool.false_eq_true, if_true, if_false, reduceIte, eq_self, not_true_eq_false, not_false_eq_true, bne_self_eq_false, beq_self_eq_true, decide_true, decide_false, decide_eq_true_eq, beq_iff_eq, bne_iff_ne, ne_eq, loadK_C b1]
    refine append_C (e := T.uint8) (e2 := T.uint8) (sz := 1) (by_ := 1) (z := .int .u8 0) (by kernel_rfl) (by kernel_rfl) (by kernel_rfl) rfl (by omega) (ho.mv m1 (by simp [Ne.symm hk])) (r1.mv m1 (by simp [hcp])).rd (oneBy _) (by omega) fun s2 q2 m2 o2 hn2 _ => ?_
    have b2 := b1.mv m2 (by simp [hk])
    refine store_C b2 (by simp) rfl fun q3 m3 b3 => ?_
    simp only [List.setIfInBounds_toArray, List.set_cons_succ, List.set_cons_zero] at b3
    have o3 := o2.mv m3 (by simp [Ne.symm hk])
    rw [← List.map_append] at o3
    have hcast : ((B.length : Nat) : Int) + (s1.n : Int) = (((B ++ xss[i]).length : Nat) : Int) := by rw [List.length_append]; omega
    rw [hcast] at b3
    have hby' : ∀ x ∈ B ++ xss[i], isByte x := fun x hx => by
      rcases List.mem_append.1 hx with hx | hx
      · exact hbb x hx
      · exact hby _ (List.getElem_mem hlt) x hx
    have m03 : Mv [kp, kl] g q3 := ((m.step m1 (by simp)).step m2 (by simp)).step m3 (by simp)
    refine loopW_ruleM (fun n st h' => ∃ (q : GH) (l : Sl) (s : S8) (rest : List Int), h' = q.h ∧ Mv [kp, kl] g q ∧ BlkC q kp p (sCells s (hRest l (B ++ xss[i]).length)) T.digest_Hasher ∧ OwnC T.uint8 1 q kl l (rest.map byV) ∧ n = rest.length ∧
        compAll s rest = compAll initS (B ++ xss[i]) ∧ tailOf rest = tailOf (B ++ xss[i]) ∧ ∀ x ∈ rest, isByte x) (tailOf B ++ xss[i]).length
      ⟨q3, s2, compAll initS B, tailOf B ++ xss[i], rfl, m03, b3, o3, rfl, (compAll_append _ _ _).symm, (tailOf_append _ _).symm, fun x hx => by
        rcases List.mem_append.1 hx with hx | hx
        · exact hbb x (List.mem_of_mem_drop hx)
        · exact hby _ (List.getElem_mem hlt) x hx⟩ ?_
    clear b3 o3 m03 b2 b1 hb ho o2
    rintro Y n _ _ ⟨q4, l4, s4, rest, rfl, m4, b4, o4, rfl, e1, e2, hrb⟩ hY
    have b4' := b4
    unfold sCells at b4'
    have hl4 := o4.len
    have hc4 := o4.cap
    simp only [List.length_map] at hl4
    simp only [derefK_some, fldK_some, Nat.zero_add, Nat.add_zero, Nat.reduceAdd, inj_int, inj_bool, inj_str, inj_ptr, inj_map, inj_slice, exists_eq_left, List.getElem?_toArray, List.getElem?_cons_zero, List.getElem?_cons_succ, Option.isNone_some, Option.isNone_none, Bool.not_true, Bool.not_false, Bool.false_eq_true, if_true, if_false, reduceIte, eq_self, not_true_eq_false, not_false_eq_true, bne_self_eq_false, beq_self_eq_true, decide_true, decide_false, decide_eq_true_eq, beq_iff_eq, bne_iff_ne, ne_eq, loadK_C b4']
    by_cases h64 : 64 ≤ rest.length
    · rw [if_pos (by omega)]
      refine slice_to o4.plain rfl (by show 64 ≤ l4.c; omega) ?_
      have rt := o4.rd.take (n := 64) (k := l4.c) (by simpa using h64)
      rw [← List.map_take] at rt
      refine take_spec hk b4 _ _ rt (by rw [List.length_take]; omega) (fun x hx => hrb x (List.mem_of_mem_take hx)) fun q5 m5 b5 => ⟨(), rfl, ?_⟩
      have b5' := b5
      unfold sCells at b5'
      simp only [derefK_some, fldK_some, Nat.zero_add, Nat.add_zero, Nat.reduceAdd, inj_int, inj_bool, inj_str, inj_ptr, inj_map, inj_slice, exists_eq_left, List.getElem?_toArray, List.getElem?_cons_zero, List.getElem?_cons_succ, Option.isNone_some, Option.isNone_none, Bool.not_true, Bool.not_false, Bool.false_eq_true, if_true, if_false, reduceIte, eq_self, not_true_eq_false, not_false_eq_true, bne_self_eq_false, beq_self_eq_true, decide_true, decide_false, decide_eq_true_eq, beq_iff_eq, bne_iff_ne, ne_eq, loadK_C b5']
      refine slice_from (n := 64) rfl (by show 64 ≤ l4.n; omega) hc4 ?_
      refine store_C b5' (by simp) rfl fun q6 m6 b6 => ?_
      simp only [List.setIfInBounds_toArray, List.set_cons_succ, List.set_cons_zero] at b6
      have o6 := ((o4.mv m5 (by simp [Ne.symm hk])).mv m6 (by simp [Ne.symm hk])).drop (n := 64) zU8 (by simpa using h64)
      rw [← List.map_drop] at o6
      obtain ⟨f1, f2⟩ := compAll_block s4 rest h64
      exact hY (rest.drop 64).length () _ ⟨q6, ⟨if l4.c = 64 then l4.a else l4.a.map (·.add (64 * sizeOfT Try.prog T.uint8)), l4.n - 64, l4.c - 64⟩, compS s4 (rest.take 64), rest.drop 64, rfl, (m4.step m5 (by simp)).step m6 (by simp), b6, o6, rfl, by rw [← f1]; exact e1, by rw [← f2]; exact e2, fun x hx => hrb x (List.mem_of_mem_drop hx)⟩ (by rw [List.length_drop]; omega)
    · rw [if_neg (by omega), wrapSucc (by omega)]
      refine hX _ _ ⟨i + 1, q4, by omega, rfl, rfl, m4, l4, ?_, ?_, ?_⟩ (by simp; omega)
      · have hz : rest.length / 64 = 0 := by omega
        have e3 : compAll s4 rest = s4 := by unfold compAll; rw [hz]; rfl
        rw [List.take_succ_eq_append_getElem hlt, List.flatten_append, List.flatten_singleton, ← List.append_assoc, hB, ← e1, e3]
        exact b4
      · rw [List.take_succ_eq_append_getElem hlt, List.flatten_append, List.flatten_singleton, ← List.append_assoc, hB, ← e2, tailOf_lt (by omega)]
        exact o4
      · rw [List.take_succ_eq_append_getElem hlt, List.flatten_append, List.flatten_singleton, ← List.append_assoc, hB]
        exact hby'
  · rw [if_neg (by simp [hn]; omega)]
    have hi' : i = xss.length := by omega
    subst hi'
    rw [List.take_length] at hb ho hbb hBl
    have hb' := hb
    unfold sCells at hb'
    simp only [derefK_some, fldK_some, Nat.zero_add, Nat.add_zero, Nat.reduceAdd, inj_int, inj_bool, inj_str, inj_ptr, inj_map, inj_slice, exists_eq_left, List.getElem?_toArray, List.getElem?_cons_zero, List.getElem?_cons_succ, Option.isNone_some, Option.isNone_none, Bool.not_true, Bool.not_false, Bool.false_eq_true, if_true, if_false, reduceIte, eq_self, not_true_eq_false, not_false_eq_true, bne_self_eq_false, beq_self_eq_true, decide_true, decide_false, decide_eq_true_eq, beq_iff_eq, bne_iff_ne, ne_eq, loadK_C hb']
    have htl := tailOf_length (bs ++ xss.flatten)
    refine CloneBytes_spec q kl l _ ho.rd.rd (by omega) fun s1 q1 m1 o1 => ⟨_, rfl, ?_⟩
    have b1 := hb'.mv m1 (by simp)
    try dsimp only
    refine store_C b1 (by simp) rfl fun q2 m2 b2 => ?_
    simp only [List.setIfInBounds_toArray, List.set_cons_succ, List.set_cons_zero] at b2
    exact H q2 ((m.step m1 (by simp)).step m2 (by simp)) ⟨s1, b2, o1.mv m2 (by simp [Ne.symm hk]), hbb⟩

theorem BytesW_C (g : GH) (c : Nat) (s : Sl) (ws : List (BitVec 32)) (hr : Rd 1 g.h s (ws.map wv)) (hl : ws.length ≤ 1000000) {R : Value → Heap → Prop}
    (H : ∀ (s' : Sl) (g' : GH), Mv [] g g' → OwnC T.uint8 1 g' c s' ((ws.flatMap be4).map byV) → R (.slice s'.a s'.n s'.c) g'.h) : HC Try.prog F.bits_Bytes #[.slice s.a s.n s.c] R g.h :=
  Bytes_spec s ws hr (by omega) fun s' h' own x hb => H s' (g.to h' c) (GH.to_ext c x) ⟨own, fun b h1 => g.to_new _ _ _ (hb b h1)⟩

theorem len8_eq (n : Nat) : len8 n = be4 (BitVec.ofNat 32 (n / 4294967296)) ++ be4 (BitVec.ofNat 32 n) := by
  unfold len8 be4
  simp only [List.range_succ, List.range_zero, List.nil_append, List.cons_append, List.map_append, List.map_cons, List.map_nil, BitVec.toNat_ofNat, Nat.reducePow, Nat.reduceSub, List.cons.injEq, and_true]
  refine ⟨?_, ?_, ?_, ?_, ?_, ?_, ?_, ?_⟩ <;> omega

theorem ofNatW (x : Nat) : IntKind.u32.wrap (x : Int) = ((BitVec.ofNat 32 x).toNat : Int) := by
  rw [wrapU32_mod, BitVec.toNat_ofNat]; simp only [Nat.reducePow]; omega

theorem fill_spec (g : GH) (c n : Nat) (hn : n ≤ 1000000000) {R : Value → Heap → Prop}
    (H : ∀ (s' : Sl) (g' : GH), Mv [] g g' → OwnC T.uint8 1 g' c s' ((padOf n).map byV) → R (.slice s'.a s'.n s'.c) g'.h) : HC Try.prog F.digest_fill #[.int .i64 (n : Int)] R g.h := by
  refine digest_fill.calls ?_
  unfold digest_fill.body
  refine ⟨by decide, by decide, ?_⟩
  have h1 : Int.tmod (n : Int) 64 = ((n % 64 : Nat) : Int) := by rw [Int.tmod_eq_emod_of_nonneg (by omega)]; omega
  rw [h1, wrapI64 (n := 119 - ((n % 64 : Nat) : Int)) (by omega) (by omega)]
  have h2 : Int.tmod (119 - ((n % 64 : Nat) : Int)) 64 = (((119 - n % 64) % 64 : Nat) : Int) := by rw [Int.tmod_eq_emod_of_nonneg (by omega)]; omega
  rw [h2, wrapI64 (n := 1 + (((119 - n % 64) % 64 : Nat) : Int)) (by omega) (by omega)]
  rw [show 1 + (((119 - n % 64) % 64 : Nat) : Int) = ((1 + (119 - n % 64) % 64 : Nat) : Int) from by omega, show (128 : Int) = ((128 : Nat) : Int) from rfl]
  have m0 := Mv.refl [1] g.base
  refine make_C (e := T.uint8) (by_ := 1) (z := .int .u8 0) (by kernel_rfl) (by kernel_rfl) rfl (by omega) g.base 1 (by omega) (by omega) fun s1 q1 m1 o1 n1 c1 _ => ?_
  replace m0 := m0.step m1 (by simp)
  refine idxStore_C (i := 0) o1 zU8 (by simp; omega) rfl fun q2 m2 o2 => ?_
  replace m0 := m0.step m2 (by simp)
  refine ⟨by decide, ?_⟩
  rw [wrapI64 (n := 8 * (n : Int)) (by omega) (by omega), wrapU64 (n := 8 * (n : Int)) (by omega) (by omega)]
  have h3 : Int.fdiv (8 * (n : Int)) (2 ^ min (Int.toNat 32) (IntKind.bits .u64)) = ((8 * n / 4294967296 : Nat) : Int) := by
    rw [show ((2 : Int) ^ min (Int.toNat 32) (IntKind.bits .u64)) = 4294967296 from by decide, Int.fdiv_eq_ediv_of_nonneg _ (by decide)]; omega
  rw [h3, ofNatW, show 8 * (n : Int) = ((8 * n : Nat) : Int) from by omega, ofNatW]
  refine newSl_C q2 2 rfl fun s3 q3 m3 o3 n3 c3 => ?_
  replace m0 := m0.step m3 (by simp)
  refine BytesW_C q3 2 s3 [BitVec.ofNat 32 (8 * n / 4294967296), BitVec.ofNat 32 (8 * n)] o3.rd.rd (by simp) fun s4 q4 m4 o4 => ⟨_, rfl, ?_⟩
  replace m0 := m0.step m4 (by simp)
  have hn4 := o4.len
  simp [be4] at hn4
  try dsimp only
  refine append_C (e := T.uint8) (e2 := T.uint8) (sz := 1) (by_ := 1) (z := .int .u8 0) (by kernel_rfl) (by kernel_rfl) (by kernel_rfl) rfl (by omega) ((o2.mv m3 (by simp)).mv m4 (by simp)) o4.rd.rd (oneBy _) (by omega) fun s5 q5 m5 o5 hn5 _ => ?_
  replace m0 := m0.step m5 (by simp)
  refine H s5 (g.via q5 fun _ => c) (m0.via (by simp) _) ?_
  have o6 := o5.via m0 (by simp) (fun _ => c)
  have : (padOf n).map byV = (List.replicate (1 + (119 - n % 64) % 64) (Value.int .u8 0)).set 0 (.int .u8 ((128 : Nat) : Int)) ++ ([BitVec.ofNat 32 (8 * n / 4294967296), BitVec.ofNat 32 (8 * n)].flatMap be4).map byV := by
    unfold padOf
    rw [len8_eq, Nat.add_comm 1, List.replicate_succ, List.set_cons_zero]
    simp [List.flatMap_cons]
  rw [this]
  exact o6

/-- Memory that reads words. -/
theorem sCells_rd {g : GH} {c p : Nat} {s : S8} {rest : List Value} {e : TypeId} (hb : BlkC g c p (sCells s rest) e) (k : Nat) : Rd 1 g.h ⟨some ⟨p, 0, none⟩, 8, k⟩ (s.list.map wv) := ⟨rfl, .inr ⟨p, 0, _, _, _, rfl, hb.blk, fun i hi => by
  have h8 : i < 8 := by simpa [S8.list] using hi
  simp only [Nat.zero_add]
  rcases i with _ | _ | _ | _ | _ | _ | _ | _ | i <;> first | rfl | omega⟩⟩


theorem ended_spec {g : GH} {kp kl p : Nat} {bs : List Int} (hk : kp ≠ kl) (hd : HashC g kp kl p bs) (hl : bs.length ≤ 90000000) {R : Value → Heap → Prop}
    (H : ∀ g' : GH, Mv [kp, kl] g g' → R (.agg (tagA (shaB bs))) g'.h) : HC Try.prog F.digest_Hasher_ended #[.pointer (some ⟨p, 0, none⟩)] R g.h := by
  refine digest_Hasher_ended.calls ?_
  unfold digest_Hasher_ended.body
  obtain ⟨x, hx, hxn⟩ := fresh_exists g [kp, kl]
  simp only [List.mem_cons, List.mem_nil_iff, or_false, not_or] at hxn
  have m : Mv [kp, kl, x] g g := Mv.refl _ _
  rw [zTag]
  refine new_C g x fun t q1 m1 b1 => ?_
  replace m := m.step m1 (by simp)
  have hd1 := hd.mv m1 (by simp) (by simp)
  have hd1' := hd1
  obtain ⟨l, hb, ho, hby⟩ := hd1
  unfold sCells at hb
  simp only [derefK_some, fldK_some, Nat.zero_add, Nat.add_zero, Nat.reduceAdd, inj_int, inj_bool, inj_str, inj_ptr, inj_map, inj_slice, exists_eq_left, List.getElem?_toArray, List.getElem?_cons_zero, List.getElem?_cons_succ, Option.isNone_some, Option.isNone_none, Bool.not_true, Bool.not_false, Bool.false_eq_true, if_true, if_false, reduceIte, eq_self, not_true_eq_false, not_false_eq_true, bne_self_eq_false, beq_self_eq_true, decide_true, decide_false, decide_eq_true_eq, beq_iff_eq, bne_iff_ne, ne_eq, loadK_C hb]
  obtain ⟨y, hy⟩ : ∃ y, y ≠ kp ∧ y ≠ kl ∧ y ≠ x := ⟨kp + kl + x + 1, by omega, by omega, by omega⟩
  refine fill_spec q1 y bs.length (by omega) fun s2 q2 m2 o2 => ⟨_, rfl, ?_⟩
  replace m := m.step m2 (by simp)
  try dsimp only
  refine newSl_C q2 y rfl fun s3 q3 m3 o3 n3 c3 => ?_
  replace m := m.step m3 (by simp)
  have hpl : (padOf bs.length).length ≤ 200 := by unfold padOf len8; simp; omega
  have hpb : ∀ x ∈ padOf bs.length, isByte x := by
    intro x hx
    unfold padOf at hx
    rw [len8_eq] at hx
    simp only [List.mem_cons, List.mem_append, List.mem_replicate] at hx
    rcases hx with rfl | ⟨_, rfl⟩ | hx | hx
    · unfold isByte; omega
    · unfold isByte; omega
    · exact be4_byte _ x hx
    · exact be4_byte _ x hx
  refine all_spec (c := y) hk hy.1 hy.2.1 ((hd1'.mv m2 (by simp) (by simp)).mv m3 (by simp) (by simp)) s3 [padOf bs.length] (RowsC.one o3.rd (o2.rd.mv m3 (by simp)) o2.cap) (fun xs hxs => by simp at hxs; subst hxs; exact hpb) (by simp [total]; omega) (by simp) fun q4 m4 d4 => ⟨(), rfl, ?_⟩
  replace m := m.step m4 (by simp)
  have b4 := ((b1.mv m2 (by simp)).mv m3 (by simp)).mv m4 (by simp [hxn.1, hxn.2])
  obtain ⟨l4, hb4, ho4, _⟩ := d4
  have hnil : tailOf (bs ++ [padOf bs.length].flatten) = [] := by
    have : (tailOf (bs ++ [padOf bs.length].flatten)).length = 0 := by rw [tailOf_length]; have := padOf_length bs.length; simp; omega
    exact List.length_eq_zero_iff.1 this
  refine sliceArr_C 0 32 rfl rfl (by decide) ?_
  refine sliceArr_C 0 8 rfl rfl (by decide) ?_
  have hrd := sCells_rd hb4 8
  refine BytesW_C q4 y ⟨some ⟨p, 0 + 0 * _, none⟩, 8 - 0, 8 - 0⟩ _ (by simpa using hrd) (by simp [S8.list]) fun s5 q5 m5 o5 => ⟨_, rfl, ?_⟩
  replace m := m.step m5 (by simp)
  try dsimp only
  have b5 := b4.mv m5 (by simp)
  have hfl : ([padOf bs.length] : List (List Int)).flatten = padOf bs.length := by simp
  try rw [hfl] at o5
  have hsha : (compAll initS (bs ++ padOf bs.length)).list.flatMap be4 = shaB bs := rfl
  rw [hsha] at o5
  have hn5 := o5.len
  rw [List.length_map, shaB_length] at hn5
  refine copy_C (e := T.uint8) (by kernel_rfl) (by kernel_rfl) b5 (s := ⟨some ⟨t, 0 + 0 * _, none⟩, 32 - 0, 32 - 0⟩) (by rw [Nat.zero_mul]) (by simp) o5.rd.rd (oneBy _) fun q6 m6 b6 => ?_
  replace m := m.step m6 (by simp)
  have b6' : BlkC q6 x t (tagA (shaB bs)) T.api_Tag := by
    have : overA (Array.replicate 32 (.int .u8 0)) 0 (((shaB bs).map byV).take (min s5.n (32 - 0))) = tagA (shaB bs) := by
      rw [hn5, List.take_of_length_le (by simp [shaB_length]), overA_all (by simp [shaB_length])]
    rw [← this]; exact b6
  rw [loadAggK_C b6']
  have hsz : (tagA (shaB bs)).size = 32 := by simp [shaB_length]
  refine ⟨by rw [szTag, hsz]; omega, ?_⟩
  have hex : (tagA (shaB bs)).extract 0 (0 + sizeOfT Try.prog T.api_Tag) = tagA (shaB bs) := by rw [szTag]; exact extract_all hsz
  rw [hex]
  refine result_C (n := 32) szTag dTag b6' hsz hsz (fun v hv => oneBy _ v hv) fun q7 m7 => ?_
  replace m := m.step m7 (by simp)
  exact H (g.via q7 (reOne x 0)) (m.re _ (by simp [hx]))

theorem digestOf_spec (g : GH) {c : Nat} (rows : Sl) (xss : List (List Int)) (hr : RowsC g c rows xss) (hby : ∀ xs ∈ xss, ∀ x ∈ xs, isByte x) (ht : total xss ≤ 80000000) (hl : xss.length ≤ 1000000000000) {R : Value → Heap → Prop} (H : ∀ g' : GH, Mv [] g g' → R (.agg (tagA (shaB xss.flatten))) g'.h) :
    HC Try.prog F.digest_Of #[.slice rows.a rows.n rows.c] R g.h := by
  refine digest_Of.calls (rows0 := rows) ?_
  unfold digest_Of.body
  have m := Mv.refl [1, 2, 3] g.base
  rw [zTag]
  refine new_C g.base 1 fun t q1 m1 b1 => ?_
  replace m := m.step m1 (by simp)
  refine NewHash_spec q1 2 3 fun p q2 m2 d2 => ⟨_, rfl, ?_⟩
  replace m := m.step m2 (by simp)
  refine all_spec (by decide) (by decide) (by decide) d2 rows xss (hr.arg m (by simp)) hby (by simp; omega) hl fun q3 m3 d3 => ⟨(), rfl, ?_⟩
  replace m := m.step m3 (by simp)
  rw [List.nil_append] at d3
  refine ended_spec (by decide) d3 (by show total xss ≤ _; omega) fun q4 m4 => ⟨_, rfl, ?_⟩
  replace m := m.step m4 (by simp)
  have b4 := ((b1.mv m2 (by simp)).mv m3 (by simp)).mv m4 (by simp)
  refine result_C (n := 32) szTag dTag b4 (by simp) (by simp [shaB_length]) (fun v hv => oneBy _ v hv) fun q5 m5 => ?_
  replace m := m.step m5 (by simp)
  exact H (g.via q5 fun _ => 0) (m.via (by simp) _)

end Go.Proofs.Ytijipdaofojbiaa
