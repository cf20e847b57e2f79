/-
  The document's journal: contracts of its functions.
-/
import Derived.Test.YtgongoaiflphaaaGreatKLaw26
import Derived.Test.YtgongoaiflphaaaGreatKRef25
import Derived.Test.YtgongoaiflphaaaGreatKRef17
import Derived.Test.YtgongoaiflphaaaGreatKRef02
import Derived.Test.YtgongoaiflphaaaGreatMem3
set_option linter.unusedSimpArgs false
set_option linter.unusedVariables false
namespace Go.Proofs.YtgongoaiflphaaaGreat
open Go Go.Ev

/-- A real maker of the document's. -/
def Mk26 (g : GH) (c p : Nat) : Prop := ∃ (cells : Array Value) (e : TypeId), BlkC g c p cells e ∧ cells[0]? = some (.bool true)
theorem Mk26.mv {K : List Nat} {g g' : GH} {c p : Nat} (x : Mk26 g c p) (m : Mv K g g') (hk : c ∉ K) : Mk26 g' c p := by
  obtain ⟨cells, e, b, h⟩ := x
  exact ⟨cells, e, b.mv m hk, h⟩
theorem Mk26.base {g : GH} {c p : Nat} (x : Mk26 g c p) : Mk26 g.base 0 p := by
  obtain ⟨cells, e, b, h⟩ := x
  exact ⟨cells, e, b.base, h⟩
theorem refSum26_spec {g : GH} {c d p : Nat} (x : Mk26 g c p) (b : Sl) (bs : List Int) (hr : RdC 1 g d b (bs.map byV)) (hl : bs.length ≤ 80000000) (hby : ∀ x ∈ bs, isByte x) {R : Value → Heap → Prop} (H : ∀ g' : GH, Mv [] g g' → R (.agg (tagA (shaB bs))) g'.h) :
    HC Tryz.prog F.ref04_Maker_Sum #[.pointer (some ⟨p, 0, none⟩), .slice b.a b.n b.c] R g.h := by
  refine ref04_Maker_Sum.calls (b1 := b) ?_
  unfold ref04_Maker_Sum.body
  have m := Mv.refl [1] g.base
  have x0 := x.base
  rw [zTag]
  refine new_C g.base 1 fun t q1 m1 b1 => ?_
  replace m := m.step m1 (by simp)
  obtain ⟨cells, e, bx, h0⟩ := x0.mv m1 (by simp)
  rw [derefK_some, fldK_some, loadK_C bx]
  refine ⟨true, h0, ?_⟩
  rw [if_pos rfl]
  refine refOf_spec q1 b bs (hr.arg m (by simp)) hl hby fun q2 m2 => ⟨_, rfl, ?_⟩
  replace m := m.step m2 (by simp)
  refine result_C (n := 32) szTag dTag (b1.mv m2 (by simp)) (by simp) (by simp [shaB_length]) (fun v hv => oneBy _ v hv) fun q3 m3 => ?_
  replace m := m.step m3 (by simp)
  exact H (g.via q3 fun _ => 0) (m.via (by simp) _)
theorem appB {g : GH} {c d : Nat} {s x : Sl} {xs ys : List Int} (o : OwnC T.uint8 1 g c s (xs.map byV)) (r : RdC 1 g d x (ys.map byV)) (hl : xs.length + ys.length ≤ 100000000) {K : Sl → Heap → Prop} (H : ∀ (s' : Sl) (g' : GH), Mv [c] g g' → OwnC T.uint8 1 g' c s' ((xs ++ ys).map byV) → K s' g'.h) :
    opK Tryz.prog .slice (Builtin.append_ #[T.sl_uint8, T.sl_uint8] T.sl_uint8 #[.slice s.a s.n s.c, .slice x.a x.n x.c]) K g.h := by
  have h1 := o.len
  have h2 := r.len
  rw [List.length_map] at h1 h2
  refine append_C (e := T.uint8) (e2 := T.uint8) (sz := 1) (by_ := 1) (z := .int .u8 0) (by kernel_rfl) (by kernel_rfl) (by kernel_rfl) rfl (by omega) o r.rd (oneBy _) (by omega) fun s' q m o' _ _ => ?_
  exact H s' q m (by rw [List.map_append]; exact o')

set_option maxHeartbeats 1000000 in
theorem refFrame_spec {g : GH} {cm pm d : Nat} (x : Mk26 g cm pm) (i : Nat) (s : Sl) (b : List Int) (hr : RdC 1 g d s (b.map byV)) (hs : s.n ≤ s.c) (hl : b.length ≤ 60000000) (hby : ∀ z ∈ b, isByte z) (o : Nat) {R : Value → Heap → Prop}
    (H : ∀ (s' : Sl) (g' : GH), Mv [] g g' → OwnC T.uint8 1 g' o s' ((frameT true [] i b).1.map byV) → R (.slice s'.a s'.n s'.c) g'.h) :
    HC Tryz.prog F.ref26_Frame #[ptrV pm, .int .i64 (i : Int), .slice s.a s.n s.c] R g.h := by
  refine ref26_Frame.calls (b2 := s) ?_
  unfold ref26_Frame.body
  have m := Mv.refl [1, 2, 3, 4, 5] g.base
  have hsn := hr.len
  rw [List.length_map] at hsn
  have hr0 : ∀ q : GH, Mv [1, 2, 3, 4, 5] g.base q → RdC 1 q 0 s (b.map byV) := fun q m => hr.arg m (by simp)
  have x0 : ∀ q : GH, Mv [1, 2, 3, 4, 5] g.base q → Mk26 q 0 pm := fun q m => x.base.mv m (by simp)
  refine newSl_C g.base 1 rfl fun s1 q1 m1 o1 hn1 hc1 => ?_
  replace m := m.step m1 (by simp)
  refine convRd (e := T.uint8) (by kernel_rfl) (by kernel_rfl) o1 (by simp) fun q2 m2 r2 k2 => ?_
  replace m := m.step m2 (by simp)
  refine four_spec q2 2 (i : Int) fun s3 q3 m3 o3 => ⟨_, rfl, ?_⟩
  replace m := m.step m3 (by simp)
  have hn3 := o3.len
  have h3c : s3.n = 4 := by rw [hn3]; rfl
  have r2' : RdC 1 q3 1 s1 (fileB.map byV) := r2.mv m3 (by simp)
  refine appendNew_C (e := T.uint8) (e2 := T.uint8) (sz := 1) (by_ := 1) (z := .int .u8 0) (by kernel_rfl) (by kernel_rfl) (by kernel_rfl) rfl (by omega) 3 r2'.rd o3.rd.rd (by omega) (by omega) fun s4 q4 m4 o4 hn4 => ?_
  replace m := m.step m4 (by simp)
  rw [← List.map_append] at o4
  refine appB o4 (hr0 q4 m) (by simp [fileB, fourB]; omega) fun s5 q5 m5 o5 => ?_
  replace m := m.step m5 (by simp)
  have hsb : fileB ++ fourB (i : Int) ++ b = seenB i b := by simp [seenB]
  rw [hsb] at o5
  have hbb : ∀ z ∈ seenB i b, isByte z := by
    intro z hz
    unfold seenB at hz
    rcases List.mem_append.1 hz with hz | hz
    · simp only [fileB, List.mem_cons, List.mem_nil_iff, or_false] at hz
      rcases hz with rfl | rfl | rfl | rfl <;> simp [isByte]
    rcases List.mem_append.1 hz with hz | hz
    · exact fourB_byte _ z hz
    · exact hby z hz
  refine refSum26_spec (x0 q5 m) s5 _ o5.rd (by simp [seenB, fileB, fourB]; omega) hbb fun q6 m6 => ⟨_, rfl, ?_⟩
  replace m := m.step m6 (by simp)
  have htl := shaB_length (seenB i b)
  have hfr : (frameT true [] i b).1 = fourB (b.length : Nat) ++ b ++ shaB (seenB i b) := rfl
  rw [hfr] at H
  generalize shaB (seenB i b) = t at htl H ⊢
  rw [zTag]
  refine newStore_C q6 4 (by rw [szTag]; simp [htl]) (by rw [szTag]; simp) (fun v hv => oneBy _ v hv) fun pt q7 m7 bt => ?_
  replace m := m.step m7 (by simp)
  rw [hsn]
  refine four_spec q7 5 ((b.length : Nat) : Int) fun s8 q8 m8 o8 => ⟨_, rfl, ?_⟩
  replace m := m.step m8 (by simp)
  rw [← hsn]
  refine appB o8 (hr0 q8 m) (by simp [fourB]; omega) fun s9 q9 m9 o9 => ?_
  replace m := m.step m9 (by simp)
  refine loopW_rule (fun st h' => ∃ (k : Nat) (sx : Sl) (q : GH), k ≤ 32 ∧ st = (sx, (k : Int)) ∧ h' = q.h ∧ Mv [1, 2, 3, 4, 5] g.base q ∧ BlkC q 4 pt (tagA t) T.api_Tag ∧ OwnC T.uint8 1 q 5 sx ((fourB (b.length : Nat) ++ b ++ t.take k).map byV)) (fun st => 32 - st.2.toNat)
    ⟨0, s9, q9, by omega, rfl, rfl, m, (bt.mv m8 (by simp)).mv m9 (by simp), by simpa using o9⟩ ?_
  rintro X _ _ ⟨k, sx, q, hk, rfl, rfl, m, bt, ox⟩ hX
  try dsimp only
  by_cases hlt : k < 32
  · rw [if_pos (by simp; omega)]
    have hti : k < t.length := by rw [htl]; exact hlt
    refine idxArr_N zU8 (by omega) ?_
    rw [loadK_C bt]
    refine ⟨t[k], by simp [Kd.inj, byV, List.getElem?_eq_getElem hti], ?_⟩
    refine newSl_C q 3 rfl fun s2 q2 m2 o2 hn2 hc2 => ?_
    have o2' : RdC 1 q2 3 s2 ([t[k]].map byV) := o2.rd
    refine appB (ox.mv m2 (by simp)) o2' (by simp [fourB]; omega) fun s3 q3 m3 o3 => ?_
    rw [wrapSucc (by omega)]
    refine hX _ _ ⟨k + 1, s3, q3, by omega, rfl, rfl, (m.step m2 (by simp)).step m3 (by simp), (bt.mv m2 (by simp)).mv m3 (by simp), ?_⟩ (by simp; omega)
    rw [List.take_succ_eq_append_getElem hti, ← List.append_assoc]
    exact o3
  · rw [if_neg (by simp; omega)]
    rw [List.take_of_length_le (by omega)] at ox
    exact H sx (g.via q fun _ => o) (m.via (by simp) _) (ox.via m (by simp) _)

theorem begins_spec {g : GH} {c d : Nat} (s w : Sl) (bs ws : List Int) (rs : RdC 1 g c s (bs.map byV)) (rw_ : RdC 1 g d w (ws.map byV)) (hl : bs.length ≤ 1000000000) (hl2 : ws.length ≤ 1000000000) {R : Value → Heap → Prop} (H : R (.bool (decide (bs.take ws.length = ws))) g.h) :
    HC Tryz.prog F.ref26_begins #[.slice s.a s.n s.c, .slice w.a w.n w.c] R g.h := by
  refine ref26_begins.calls (s0 := s) (with1 := w) ?_
  unfold ref26_begins.body
  have hn := rs.len
  have hm := rw_.len
  rw [List.length_map] at hn hm
  refine loopW_rule (fun st h' => ∃ i : Nat, i ≤ ws.length ∧ st = (i : Int) ∧ h' = g.h ∧ i ≤ bs.length ∧ bs.take i = ws.take i) (fun st => ws.length - st.toNat) ⟨0, by omega, rfl, rfl, by omega, by simp⟩ ?_
  rintro X _ _ ⟨i, hi, rfl, rfl, hib, he⟩ hX
  try dsimp only
  by_cases hlt : i < ws.length
  · rw [if_pos (by simp; omega)]
    by_cases hlb : i < bs.length
    · rw [if_neg (by simp; omega)]
      have e1 : (bs.map byV)[((i : Int)).toNat]? = some (Kd.inj (.int .u8) bs[i]) := by simp [hlb]; rfl
      have e2 : (ws.map byV)[((i : Int)).toNat]? = some (Kd.inj (.int .u8) ws[i]) := by simp [hlt]; rfl
      refine idxLoad_C rs (by kernel_rfl) (by omega) bs[i] e1 ?_
      refine idxLoad_C rw_ (by kernel_rfl) (by omega) ws[i] e2 ?_
      by_cases hx : bs[i] = ws[i]
      · rw [if_neg (by simp [hx]), wrapSucc (by omega)]
        exact hX _ _ ⟨i + 1, by omega, rfl, rfl, by omega, by rw [List.take_succ_eq_append_getElem hlb, List.take_succ_eq_append_getElem hlt, he, hx]⟩ (by simp; omega)
      · rw [if_pos (by simpa using hx)]
        have : ¬ bs.take ws.length = ws := by
          intro h
          apply hx
          have h1 : (bs.take ws.length)[i]? = ws[i]? := by rw [h]
          rw [List.getElem?_take_of_lt hlt, List.getElem?_eq_getElem hlb, List.getElem?_eq_getElem hlt] at h1
          exact Option.some.inj h1
        rw [decide_eq_false this] at H
        exact H
    · rw [if_pos (by simp; omega)]
      have : ¬ bs.take ws.length = ws := by
        intro h
        have := congrArg List.length h
        rw [List.length_take] at this
        omega
      rw [decide_eq_false this] at H
      exact H
  · rw [if_neg (by simp; omega)]
    have hi' : i = ws.length := by omega
    subst hi'
    rw [List.take_length] at he
    rw [decide_eq_true he] at H
    exact H

/-! ### What the document reads -/
def numAt (bs : List Int) : Nat := (numOf (bs.take 4)).toNat
theorem frameT_real (A : List ShThing.T) (i : Nat) (b : List Int) : frameT true A i b = ((frameT true [] i b).1, A) := rfl
theorem readJ_real : ∀ (n : Nat) (A : List ShThing.T) (i : Nat) (bs : List Int), (readJ true n A i bs).2.2 = A
  | 0, A, i, bs => rfl
  | n + 1, A, i, bs => by
    rw [readJ]
    split
    · rfl
    split
    · exact readJ_real n _ _ _
    · rfl
theorem runR_real {bs : List Int} (hby : ∀ z ∈ bs, isByte z) : (4 ≤ bs.length ∧ numAt bs ≤ 4096 ∧ 4 + numAt bs ≤ bs.length → runR (bs.take 4100) (false, 0) = ((bs.drop 4).take (numAt bs), (false, 4 + numAt bs))) ∧
    (¬ (4 ≤ bs.length ∧ numAt bs ≤ 4096 ∧ 4 + numAt bs ≤ bs.length) → (runR (bs.take 4100) (false, 0)).2.2 = 0) := by
  have hl : (bs.take 4100).length = min 4100 bs.length := List.length_take
  have hn0 : 0 ≤ numOf (bs.take 4) := (numOf_bound (fun z h => hby z (List.mem_of_mem_take h))).1
  have hnum : 4 ≤ bs.length → numR (bs.take 4100) (false, 0) = (numOf (bs.take 4), (false, 4)) := by
    intro h
    unfold numR nextR
    rw [if_neg (by simp), if_pos (by rw [hl]; show 4 ≤ _ - 0; omega), List.drop_zero, List.take_take]
    rfl
  constructor
  · rintro ⟨h1, h2, h3⟩
    unfold runR
    rw [hnum h1]
    dsimp only
    have e2 : nextR (bs.take 4100) (false, 4) (numAt bs) = ((bs.drop 4).take (numAt bs), (false, 4 + numAt bs)) := by
      unfold nextR
      rw [if_neg (by simp), if_pos (by rw [hl]; show numAt bs ≤ _ - 4; omega), List.drop_take, List.take_take, Nat.min_eq_left (by show numAt bs ≤ 4100 - 4; omega)]
    show (match nextR (bs.take 4100) (false, 4) (numAt bs) with | (b, st2) => if st2.1 = true then ([], (true, 0)) else (b, st2)) = _
    rw [e2]
    rfl
  · intro h
    unfold runR
    by_cases h1 : 4 ≤ bs.length
    · rw [hnum h1]
      dsimp only
      have e2 : nextR (bs.take 4100) (false, 4) (numAt bs) = ([], (true, 4)) := by
        unfold nextR
        rw [if_neg (by simp), if_neg (by rw [hl]; show ¬ numAt bs ≤ _ - 4; omega)]
      show (match nextR (bs.take 4100) (false, 4) (numAt bs) with | (b, st2) => if st2.1 = true then (([] : List Int), (true, 0)) else (b, st2)).2.2 = 0
      rw [e2]
      rfl
    · have e1 : numR (bs.take 4100) (false, 0) = (numOf [], (true, 0)) := by
        unfold numR nextR
        rw [if_neg (by simp), if_neg (by rw [hl]; show ¬ 4 ≤ _ - 0; omega)]
      rw [e1]
      dsimp only
      have e2 : ∀ n, nextR (bs.take 4100) (true, 0) n = ([], (true, 0)) := fun n => by unfold nextR; rw [if_pos rfl]
      rw [e2]
      rfl
theorem body_len {bs : List Int} (h3 : 4 + numAt bs ≤ bs.length) : ((bs.drop 4).take (numAt bs)).length = numAt bs := by rw [List.length_take, List.length_drop]; omega
theorem readJ_no {n : Nat} {A : List ShThing.T} {i : Nat} {bs : List Int} (hby : ∀ z ∈ bs, isByte z) (h : ¬ (36 ≤ bs.length ∧ numAt bs ≤ 4096 ∧ 36 + numAt bs ≤ bs.length)) : readJ true n A i bs = ([], bs, A) := by
  obtain ⟨r1, r2⟩ := runR_real hby
  by_cases hc : 4 ≤ bs.length ∧ numAt bs ≤ 4096 ∧ 4 + numAt bs ≤ bs.length
  · cases n with
    | zero => rfl
    | succ n =>
      rw [readJ, r1 hc, if_neg (show ¬ 4 + numAt bs = 0 by omega)]
      dsimp only
      rw [if_neg]
      · rfl
      · intro he
        have := congrArg List.length he
        rw [List.length_take, frameT_len, body_len hc.2.2] at this
        omega
  · exact readJ_stop (r2 hc)
theorem readJ_bad {n : Nat} {A : List ShThing.T} {i : Nat} {bs : List Int} (hby : ∀ z ∈ bs, isByte z) (hc : 36 ≤ bs.length ∧ numAt bs ≤ 4096 ∧ 36 + numAt bs ≤ bs.length)
    (hf : ¬ bs.take (frameT true [] i ((bs.drop 4).take (numAt bs))).1.length = (frameT true [] i ((bs.drop 4).take (numAt bs))).1) : readJ true n A i bs = ([], bs, A) := by
  cases n with
  | zero => rfl
  | succ n =>
    rw [readJ, (runR_real hby).1 ⟨by omega, hc.2.1, by omega⟩, if_neg (show ¬ 4 + numAt bs = 0 by omega)]
    dsimp only
    rw [frameT_real]
    rw [if_neg hf]
theorem readJ_yes {n : Nat} {A : List ShThing.T} {i : Nat} {bs : List Int} (hby : ∀ z ∈ bs, isByte z) (hc : 36 ≤ bs.length ∧ numAt bs ≤ 4096 ∧ 36 + numAt bs ≤ bs.length)
    (hf : bs.take (frameT true [] i ((bs.drop 4).take (numAt bs))).1.length = (frameT true [] i ((bs.drop 4).take (numAt bs))).1) :
    readJ true (n + 1) A i bs = ((bs.drop 4).take (numAt bs) :: (readJ true n A (i + 1) (bs.drop (36 + numAt bs))).1, (readJ true n A (i + 1) (bs.drop (36 + numAt bs))).2) := by
  rw [readJ, (runR_real hby).1 ⟨by omega, hc.2.1, by omega⟩, if_neg (show ¬ 4 + numAt bs = 0 by omega)]
  dsimp only
  rw [frameT_real]
  dsimp only
  rw [if_pos hf, frameT_len, body_len (by omega)]

set_option maxHeartbeats 2000000 in
theorem refRecords_spec {g : GH} {cm pm d : Nat} (x : Mk26 g cm pm) (s : Sl) (bs : List Int) (hr : RdC 1 g d s (bs.map byV)) (hs : s.n ≤ s.c) (hl : bs.length ≤ 2000000) (hby : ∀ z ∈ bs, isByte z) (c1 c2 : Nat) {R : Value → Heap → Prop}
    (H : ∀ (s' : Sl) (g' : GH), Mv [] g g' → Row2C g' c1 c2 s' (readJ true bs.length [] 0 bs).1 → R (.tuple #[slV s', .int .i64 ((bs.length - (readJ true bs.length [] 0 bs).2.1.length : Nat) : Int)]) g'.h) :
    HC Tryz.prog F.ref26_Records #[ptrV pm, .slice s.a s.n s.c] R g.h := by
  refine ref26_Records.calls (b1 := s) ?_
  unfold ref26_Records.body
  have hsn := hr.len
  rw [List.length_map] at hsn
  have hr0 : ∀ q : GH, Mv [1, 2] g.base q → RdC 1 q 0 s (bs.map byV) := fun q m => hr.arg m (by simp)
  have x0 : ∀ q : GH, Mv [1, 2] g.base q → Mk26 q 0 pm := fun q m => x.base.mv m (by simp)
  refine loopW_rule (fun st h' => ∃ (n p : Nat) (rs : List (List Int)) (sr : Sl) (q : GH), st = (sr, (p : Int)) ∧ h' = q.h ∧ p ≤ bs.length ∧ rs.length ≤ p ∧ bs.length ≤ p + n ∧ Mv [1, 2] g.base q ∧ Row2C q 1 2 sr rs ∧
      readJ true bs.length [] 0 bs = (rs ++ (readJ true n [] rs.length (bs.drop p)).1, (readJ true n [] rs.length (bs.drop p)).2)) (fun st => bs.length + 1 - st.2.toNat)
    ⟨bs.length, 0, [], ⟨none, 0, 0⟩, g.base, rfl, rfl, by omega, by simp, by omega, Mv.refl _ _, Row2C.nil _ _ _, by simp⟩ ?_
  rintro X _ _ ⟨n, p, rs, sr, q, rfl, rfl, hp, hrp, hn, m, r, he⟩ hX
  try dsimp only
  have hdl : (bs.drop p).length = bs.length - p := List.length_drop
  have hdb : ∀ z ∈ bs.drop p, isByte z := fun z h => hby z (List.mem_of_mem_drop h)
  have stop : ∀ q' : GH, Mv [1, 2] g.base q' → Row2C q' 1 2 sr rs → readJ true n [] rs.length (bs.drop p) = ([], bs.drop p, []) → R (.tuple #[slV sr, .int .i64 (p : Int)]) q'.h := by
    intro q' m' r' h
    rw [h, List.append_nil] at he
    have := H sr (g.via q' fun k => if k = 1 then c1 else c2) (m'.via (by simp) _) (by
      rw [he]
      obtain ⟨sls, o, l, hh⟩ := r'
      exact ⟨sls, o.via m' (by decide) _, l, fun i sl xs a b => ⟨(hh i sl xs a b).1.via m' (by decide) _, (hh i sl xs a b).2⟩⟩)
    rw [he] at this
    dsimp only at this
    rw [hdl, show bs.length - (bs.length - p) = p from by omega] at this
    exact this
  rw [wrapI64 (n := (p : Int) + 36) (by omega) (by omega)]
  by_cases h36 : p + 36 ≤ bs.length
  rotate_left
  · rw [if_neg (by simp; omega)]
    exact stop q m r (readJ_no hdb (by omega))
  rw [if_pos (by simp; omega)]
  -- the number
  refine loopW_rule (fun st h' => ∃ k : Nat, k ≤ 4 ∧ st = (numOf ((bs.drop p).take k), (k : Int)) ∧ h' = q.h) (fun st => 4 - st.2.toNat) ⟨0, by omega, rfl, rfl⟩ ?_
  rintro Y _ _ ⟨k, hk, rfl, rfl⟩ hY
  try dsimp only
  by_cases hk4 : k < 4
  · rw [if_pos (by simp; omega), wrapI64 (n := (p : Int) + (k : Int)) (by omega) (by omega)]
    have hpk : p + k < bs.length := by omega
    have e1 : (bs.map byV)[((p : Int) + (k : Int)).toNat]? = some (Kd.inj (.int .u8) bs[p + k]) := by
      rw [show ((p : Int) + (k : Int)).toNat = p + k from by omega]
      simp [hpk]; rfl
    refine idxLoad_C (hr0 q m) (by kernel_rfl) (by omega) bs[p + k] e1 ?_
    have hb1 := hby _ (List.getElem_mem hpk)
    have hb2 := numOf_bound (b := (bs.drop p).take k) (fun z h => hdb z (List.mem_of_mem_take h))
    have hb3 : (256 : Int) ^ ((bs.drop p).take k).length ≤ 256 ^ 3 := by
      have : ((bs.drop p).take k).length ≤ 3 := by rw [List.length_take]; omega
      rcases (show ((bs.drop p).take k).length = 0 ∨ ((bs.drop p).take k).length = 1 ∨ ((bs.drop p).take k).length = 2 ∨ ((bs.drop p).take k).length = 3 by omega) with h | h | h | h <;> rw [h] <;> decide
    have hb4 : (256 : Int) ^ 3 = 16777216 := by decide
    unfold isByte at hb1
    rw [wrapI64 (n := 256 * numOf ((bs.drop p).take k)) (by omega) (by omega), wrapI64 (n := bs[p + k]) (by omega) (by omega), wrapI64 (n := 256 * numOf ((bs.drop p).take k) + bs[p + k]) (by omega) (by omega), wrapSucc (by omega)]
    refine hY _ _ ⟨k + 1, by omega, ?_, rfl⟩ (by simp; omega)
    have hkd : k < (bs.drop p).length := by omega
    rw [List.take_succ_eq_append_getElem hkd, numOf_append, List.getElem_drop]
  rw [if_neg (by simp; omega)]
  have hk' : k = 4 := by omega
  subst hk'
  have hn0 : 0 ≤ numOf ((bs.drop p).take 4) := (numOf_bound (fun z h => hdb z (List.mem_of_mem_take h))).1
  have hN : numOf ((bs.drop p).take 4) = ((numAt (bs.drop p) : Nat) : Int) := by unfold numAt; omega
  rw [hN]
  clear hY hn0
  by_cases hbig : numAt (bs.drop p) ≤ 4096
  rotate_left
  · rw [if_pos (by simp; omega)]
    exact stop q m r (readJ_no hdb (by omega))
  rw [if_neg (by simp; omega)]
  rw [wrapI64 (n := (p : Int) + 36 + ((numAt (bs.drop p) : Nat) : Int)) (by omega) (by omega)]
  by_cases hfit : p + 36 + numAt (bs.drop p) ≤ bs.length
  rotate_left
  · rw [if_pos (by simp; omega)]
    exact stop q m r (readJ_no hdb (by omega))
  rw [if_neg (by simp; omega)]
  have hc : 36 ≤ (bs.drop p).length ∧ numAt (bs.drop p) ≤ 4096 ∧ 36 + numAt (bs.drop p) ≤ (bs.drop p).length := by omega
  obtain ⟨y, hy, hyn⟩ := fresh_exists q [0, 1, 2]
  refine newSl_C q y rfl fun s1 q1 m1 o1 hn1 hc1 => ?_
  have M1 := m.step m1 (by simp)
  rw [wrapI64 (n := (p : Int) + 4) (by omega) (by omega), wrapI64 (n := (p : Int) + 4 + ((numAt (bs.drop p) : Nat) : Int)) (by omega) (by omega)]
  refine slice_mid (l := p + 4) (h := p + 4 + numAt (bs.drop p)) (by omega) (by omega) (by omega) (by omega) ?_
  have hrq := hr0 q1 M1
  have rb := (hrq.drop (n := p + 4) (sz := sizeOfT Tryz.prog T.uint8) (by kernel_rfl) (by rw [List.length_map]; omega) hs).take (n := p + 4 + numAt (bs.drop p) - (p + 4)) (k := s.c - (p + 4)) (by rw [List.length_drop, List.length_map]; omega)
  have hbl := body_len (bs := bs.drop p) (by omega)
  rw [← List.map_drop, ← List.map_take, show p + 4 + numAt (bs.drop p) - (p + 4) = numAt (bs.drop p) from by omega, show bs.drop (p + 4) = (bs.drop p).drop 4 from by rw [List.drop_drop]] at rb
  rw [show p + 4 + numAt (bs.drop p) - (p + 4) = numAt (bs.drop p) from by omega]
  have o1' : OwnC T.uint8 1 q1 y s1 (([] : List Int).map byV) := o1
  refine appB o1' rb (by rw [hbl, List.length_nil]; omega) fun s2 q2 m2 o2 => ?_
  rw [List.nil_append] at o2
  have mm : Mv [y] q q2 := m1.then m2 (by simp)
  have e' : Mv [] q (q.via q2 fun k => if k = y then 2 else k) := mm.re _ (by simpa using hy)
  have o2' : OwnC T.uint8 1 (q.via q2 fun k => if k = y then 2 else k) 2 s2 ((((bs.drop p).drop 4).take (numAt (bs.drop p))).map byV) := by
    have := o2.re (φ := fun k => if k = y then 2 else k) mm (.inr hy)
    simpa using this
  generalize hq2 : (q.via q2 fun k => if k = y then 2 else k) = q3 at e' o2'
  have hh : q2.h = q3.h := by rw [← hq2]; rfl
  rw [hh]
  have M3 := m.step e' (by simp)
  have r3 := r.mv e' (by simp) (by simp)
  clear mm o2 o1' rb hrq M1 m2 m1 o1 hq2 hh
  have hrn := r.len
  refine slice_from (n := p) rfl (by omega) hs ?_
  have rp := (hr0 q3 M3).drop (n := p) (sz := sizeOfT Tryz.prog T.uint8) (by kernel_rfl) (by rw [List.length_map]; omega) hs
  rw [← List.map_drop] at rp
  have hbb : ∀ z ∈ ((bs.drop p).drop 4).take (numAt (bs.drop p)), isByte z := fun z h => hdb z (List.mem_of_mem_drop (List.mem_of_mem_take h))
  refine refFrame_spec (x0 q3 M3) sr.n s2 _ o2'.rd o2'.cap (by omega) hbb 3 fun sf q4 m4 of => ⟨_, rfl, ?_⟩
  rw [hrn] at of
  have M4 := M3.step m4 (by simp)
  have fl := frameT_len true [] rs.length (((bs.drop p).drop 4).take (numAt (bs.drop p)))
  refine begins_spec _ sf _ _ (rp.mv m4 (by simp)) of.rd (by omega) (by omega) ⟨_, rfl, ?_⟩
  try dsimp only
  by_cases hf : (bs.drop p).take (frameT true [] rs.length (((bs.drop p).drop 4).take (numAt (bs.drop p)))).1.length = (frameT true [] rs.length (((bs.drop p).drop 4).take (numAt (bs.drop p)))).1
  rotate_left
  · rw [decide_eq_false hf, if_pos (by rfl)]
    exact stop q4 M4 (r3.mv m4 (by simp) (by simp)) (readJ_bad hdb hc hf)
  rw [decide_eq_true hf, if_neg (by simp)]
  obtain ⟨n, rfl⟩ : ∃ n', n = n' + 1 := ⟨n - 1, by omega⟩
  rw [readJ_yes hdb hc hf, List.drop_drop] at he
  have o4 := o2'.mv m4 (by simp)
  refine push2_C (by decide) (r3.mv m4 (by simp) (by simp)) (by omega) o4.rd o4.cap fun s5 q5 m5 r5 => ?_
  refine hX _ _ ⟨n, p + (36 + numAt (bs.drop p)), rs ++ [((bs.drop p).drop 4).take (numAt (bs.drop p))], s5, q5, ?_, rfl, by omega, by rw [List.length_append]; simp; omega, by omega, M4.step m5 (by simp), r5, ?_⟩ (by simp; omega)
  · congr 1
    omega
  · rw [he]
    simp

/-! ### The document's journal in memory -/
def RjC (g : GH) (kj kh ke pj pm pd : Nat) (rs : List (List Int)) : Prop := ∃ s : Sl, BlkC g kj pj #[ptrV pm, ptrV pd, slV s] T.zugzwangref26_Journal ∧ Row2C g kh ke s rs
theorem RjC.mv {K : List Nat} {g g' : GH} {kj kh ke pj pm pd : Nat} {rs : List (List Int)} (r : RjC g kj kh ke pj pm pd rs) (m : Mv K g g') (h0 : kj ∉ K) (h1 : kh ∉ K) (h2 : ke ∉ K) : RjC g' kj kh ke pj pm pd rs := by
  obtain ⟨s, b, r⟩ := r
  exact ⟨s, b.mv m h0, r.mv m h1 h2⟩
theorem bldRj (m d : Option Addr) (s : Sl) (w : World) : (Instr.build T.zugzwangref26_Journal #[(0, .pointer m), (1, .pointer d), (2, .slice s.a s.n s.c)]).run Tryz.prog w = .ok (.agg #[.pointer m, .pointer d, slV s]) w := by kernel_rfl
theorem readJ_size (real : Bool) : ∀ (n : Nat) (A : List ShThing.T) (i : Nat) (bs : List Int), 36 * (readJ real n A i bs).1.length + total (readJ real n A i bs).1 + (readJ real n A i bs).2.1.length ≤ bs.length
  | 0, A, i, bs => by simp [readJ, total]
  | n + 1, A, i, bs => by
    rw [readJ]
    split
    · simp [total]
    split
    · rename_i h
      have := readJ_size real n (frameT real A i (runR (bs.take 4100) (false, 0)).1).2 (i + 1) (bs.drop (frameT real A i (runR (bs.take 4100) (false, 0)).1).1.length)
      have h2 := congrArg List.length h
      have fl := frameT_len real A i (runR (bs.take 4100) (false, 0)).1
      rw [List.length_take] at h2
      rw [List.length_drop] at this
      simp only [List.length_cons, total, List.flatten_cons, List.length_append] at this ⊢
      omega
    · simp [total]
theorem refOpen_spec {g : GH} {cm kq kr kj kh ke pm pd : Nat} (hqr : kq ≠ kr) (x : Mk26 g cm pm) (hcm : cm ≠ kq) {A B : List Int} (dk : RefC g kq kr pd A B) (hby : ∀ z ∈ A ++ B, isByte z) {R : Value → Heap → Prop}
    (H : ∀ (pj : Nat) (g' : GH), Mv [kq] g g' → RefC g' kq kr pd ((A ++ B).take ((A ++ B).length - (readJ true (A ++ B).length [] 0 (A ++ B)).2.1.length)) [] → (kh ≠ kq → ke ≠ kq → RjC g' kj kh ke pj pm pd (readJ true (A ++ B).length [] 0 (A ++ B)).1) → R (ptrV pj) g'.h) :
    HC Tryz.prog F.ref26_Open #[ptrV pm, ptrV pd] R g.h := by
  refine ref26_Open.calls ?_
  unfold ref26_Open.body
  have hlen : (A ++ B).length ≤ 1048576 := by obtain ⟨_, _, _, _, _, _, _, _, _, h⟩ := dk; rw [List.length_append]; exact h
  have hle := readJ_len true (A ++ B).length [] 0 (A ++ B)
  refine RefBytes_spec g kh dk fun s1 q1 m1 o1 => ⟨_, rfl, ?_⟩
  refine refRecords_spec (x.mv m1 (by simp)) s1 _ o1.rd o1.cap (by omega) hby kh ke fun s2 q2 m2 r2 => ⟨(_, _), rfl, ?_⟩
  try dsimp only
  have m := m1.step m2 (by simp)
  refine RefCut_spec hqr (dk.mv m (by simp) (by simp)) _ (fun hc q3 m3 dk => ⟨_, rfl, ?_⟩) (fun h => (h ⟨Int.natCast_nonneg _, Int.ofNat_le.2 (Nat.sub_le _ _)⟩).elim)
  rw [Int.toNat_natCast] at dk
  refine ⟨_, bldRj _ _ s2, ?_⟩
  refine new_C q3 kj fun pj q4 m4 b4 => ?_
  exact H pj q4 (((m.mono (L := [kq]) (by simp)).step m3 (by simp)).step m4 (by simp)) (dk.mv m4 (by simp) (by simp)) fun h1 h2 => ⟨s2, b4, (r2.mv m3 (by simpa using h1) (by simpa using h2)).mv m4 (by simp) (by simp)⟩

theorem foldRef {g : GH} {kq kr p : Nat} {A B : List Int} (r : RefC g kq kr p A B) (ψ : Nat → Nat) (h1 : ψ kq = kq) (h2 : ψ kr = kr) : RefC (GH.fold g ψ) kq kr p A B := by
  obtain ⟨s, t, b, o, o2, r⟩ := r
  exact ⟨s, t, foldBlk b ψ h1, foldRd o ψ h2, foldRd o2 ψ h2, r⟩
theorem unfoldRef {K : List Nat} {g q : GH} {ψ : Nat → Nat} (m : Mv K (GH.fold g ψ) q) {kq kr p : Nat} {A B : List Int} (r : RefC q kq kr p A B) (h1 : ∀ z, ψ z = kq → z = kq) (h2 : ∀ z, ψ z = kr → z = kr) : RefC (g.via q id) kq kr p A B := by
  obtain ⟨s, t, b, o, o2, r⟩ := r
  exact ⟨s, t, ⟨b.blk, unfoldCol m h1 b.col⟩, ⟨o.rd, o.col.imp id fun ⟨b, x1, x2, x3⟩ => ⟨b, x1, x2, unfoldCol m h2 x3⟩⟩, ⟨o2.rd, o2.col.imp id fun ⟨b, x1, x2, x3⟩ => ⟨b, x1, x2, unfoldCol m h2 x3⟩⟩, r⟩
theorem RefWrite2_spec {g : GH} {kq kr kh ke p : Nat} {A B : List Int} (hk : kq ≠ kr) (h1 : kh ≠ kq) (h2 : kh ≠ kr) (h3 : ke ≠ kq) (h4 : ke ≠ kr) (hd : RefC g kq kr p A B) (rows : Sl) (xss : List (List Int)) (hr : Row2C g kh ke rows xss) (ht : total xss ≤ 90000000) (hl : xss.length ≤ 1000000000) {R : Value → Heap → Prop}
    (H1 : (A ++ B).length + total xss ≤ 1048576 → ∀ g' : GH, Mv [kq] g g' → RefC g' kq kr p A (B ++ xss.flatten) → R (.int .i64 0) g'.h)
    (H2 : ¬ (A ++ B).length + total xss ≤ 1048576 → ∀ g' : GH, Mv [] g g' → R (.int .i64 3) g'.h) : HC Tryz.prog F.ref25_Disk_Write #[.pointer (some ⟨p, 0, none⟩), .slice rows.a rows.n rows.c] R g.h := by
  have hun : ∀ z t : Nat, ¬ t = kh → psiJ ke kh z = t → z = t := by
    intro z t ht h
    unfold psiJ at h
    split at h
    · exact absurd h.symm ht
    · exact h
  have hid : ∀ t : Nat, ¬ t = ke → psiJ ke kh t = t := fun t ht => if_neg ht
  refine RefWrite_spec (g := GH.fold g (psiJ ke kh)) hk (foldRef hd _ (hid _ (Ne.symm h3)) (hid _ (Ne.symm h4))) rows xss hr.fold (by omega) hl (fun hf q m d => ?_) (fun hf q m => ?_)
  · refine H1 hf (g.via q id) (unfoldMv m fun z hz => ?_) (unfoldRef m d (fun z => hun z _ (Ne.symm h1)) (fun z => hun z _ (Ne.symm h2)))
    simp only [List.mem_singleton] at hz ⊢
    exact hun z _ (Ne.symm h1) hz
  · exact H2 hf (g.via q id) (unfoldMv m fun z hz => by simp at hz)

/-- The address of a row; it is loaded later. -/
theorem rowAt {g : GH} {c : Nat} {s : Sl} {xss : List (List Int)} {i : Nat} (r : RowsC g c s xss) (hi : i < xss.length) {K : Addr → Prop}
    (hK : ∀ (a : Addr) (sl : Sl), (∀ (q : GH), RowsC q c s xss → q.h = g.h → ∀ (L : Sl → Prop), L sl → loadK .slice q.h (some a) L) → RdC 1 g c sl (xss[i].map byV) → sl.n ≤ sl.c → K a) : idxK s (i : Int) (sizeOfT Tryz.prog T.sl_uint8) K := by
  obtain ⟨sls, h1, h2, h3⟩ := r
  have hi2 : i < sls.length := by omega
  obtain ⟨h4, h5⟩ := h3 i _ _ (List.getElem?_eq_getElem hi2) (List.getElem?_eq_getElem hi)
  rcases h1.rd.2 with hn | ⟨b, o, cs, e, fz, ha, hb, hc⟩
  · rw [List.map_eq_nil_iff] at hn; subst hn; simp at hi2
  · refine ⟨_, ha, ⟨by omega, by rw [h1.rd.len]; simp; omega⟩, ?_⟩
    rw [show sizeOfT Tryz.prog T.sl_uint8 = 1 from by kernel_rfl, Nat.mul_one, addr_add]
    refine hK _ sls[i] ?_ h4 h5
    intro q _ hq L hL
    rw [hq]
    refine ⟨b, o + ((i : Int)).toNat, cs, e, fz, sls[i], rfl, hb, ?_, hL⟩
    rw [hc _ (by simp; omega)]
    simp [hi2]
    rfl
set_option maxHeartbeats 4000000 in
theorem rjPut_spec {g : GH} {cm kq kr kj kh ke d pm pd pj : Nat} (hk : kq ≠ kr ∧ kq ≠ kj ∧ kq ≠ kh ∧ kq ≠ ke ∧ kj ≠ kr ∧ kj ≠ kh ∧ kj ≠ ke ∧ kh ≠ ke ∧ kh ≠ kr) (hc : cm ≠ kq ∧ cm ≠ kj ∧ cm ≠ kh) (hd : d ≠ kq ∧ d ≠ kj ∧ d ≠ kh) (h120 : ∀ z ∈ [cm, kq, kr, kj, kh, ke, d], z < 120) (x : Mk26 g cm pm) {A B : List Int} (dk : RefC g kq kr pd A B) {rs : List (List Int)} (j : RjC g kj kh ke pj pm pd rs)
    (rows : Sl) (xss : List (List Int)) (hr : RowsC g d rows xss) (hby : ∀ x ∈ xss, ∀ z ∈ x, isByte z) (hl : xss.length ≤ 20000) (hrl : rs.length ≤ 10000000) {R : Value → Heap → Prop}
    (H1 : (∀ x ∈ xss, x.length ≤ 4096) → (A ++ B).length + total (framesT true [] rs.length xss).1 ≤ 1048576 → ∀ g' : GH, Mv [kq, kj, kh, 120] g g' → RefC g' kq kr pd A (B ++ (framesT true [] rs.length xss).1.flatten) → RjC g' kj kh ke pj pm pd (rs ++ xss) → R (.int .i64 0) g'.h)
    (H2 : ¬ (∀ x ∈ xss, x.length ≤ 4096) → R (.int .i64 2) g.h)
    (H3 : (∀ x ∈ xss, x.length ≤ 4096) → ¬ (A ++ B).length + total (framesT true [] rs.length xss).1 ≤ 1048576 → ∀ g' : GH, Mv [120] g g' → R (.int .i64 3) g'.h) :
    HC Tryz.prog F.ref26_Journal_Put #[ptrV pj, .slice rows.a rows.n rows.c] R g.h := by
  refine ref26_Journal_Put.calls (l1 := rows) ?_
  unfold ref26_Journal_Put.body
  simp only [List.mem_cons, List.mem_nil_iff, or_false, forall_eq_or_imp, forall_eq] at h120
  have hn := hr.len
  refine loopW_rule (fun st h' => ∃ i : Nat, i ≤ xss.length ∧ st = (i : Int) ∧ h' = g.h ∧ ∀ x ∈ xss.take i, x.length ≤ 4096) (fun st => xss.length - st.toNat) ⟨0, by omega, rfl, rfl, by simp⟩ ?_
  rintro X0 _ _ ⟨i, hi, rfl, rfl, hall⟩ hX0
  try dsimp only
  by_cases hlt : i < xss.length
  · rw [if_pos (by simp; omega)]
    refine hr.idx (by kernel_rfl) hlt fun sl rsl _ => ?_
    have hsl := rsl.len
    rw [List.length_map] at hsl
    by_cases hbig : xss[i].length > 4096
    · rw [if_pos (by simp; omega)]
      refine H2 fun h => ?_
      have := h _ (List.getElem_mem hlt)
      omega
    · rw [if_neg (by simp; omega), wrapSucc (by omega)]
      refine hX0 _ _ ⟨i + 1, by omega, rfl, rfl, ?_⟩ (by simp; omega)
      rw [List.take_succ_eq_append_getElem hlt]
      intro x hx
      rcases List.mem_append.1 hx with hx | hx
      · exact hall x hx
      · simp only [List.mem_singleton] at hx; rw [hx]; omega
  rw [if_neg (by simp; omega)]
  rw [List.take_of_length_le (by omega)] at hall
  clear hX0 hlt hi
  have hsn := framesT_snoc true
  have hreal : ∀ l : List (List Int), (framesT true [] rs.length l).2 = [] := by
    intro l
    have : ∀ (l : List (List Int)) (i : Nat), (framesT true [] i l).2 = [] := by
      intro l
      induction l with
      | nil => intro i; rfl
      | cons b l ih => intro i; simp only [framesT]; rw [frameT_real]; exact ih _
    exact this l _
  refine loopW_rule (fun st h' => ∃ (i : Nat) (s : Sl) (q : GH), i ≤ xss.length ∧ st = (s, (i : Int)) ∧ h' = q.h ∧ Mv [120] g q ∧ Row2C q 120 121 s (framesT true [] rs.length (xss.take i)).1) (fun st => xss.length - st.2.toNat)
    ⟨0, ⟨none, 0, 0⟩, g, by omega, rfl, rfl, Mv.refl _ _, Row2C.nil _ _ _⟩ ?_
  rintro X _ _ ⟨i, s, q, hi, rfl, rfl, m, r⟩ hX
  try dsimp only
  have jq := j.mv m (by simp; omega) (by simp; omega) (by simp; omega)
  have hrq := hr.mv m (by simp; omega)
  have dq := dk.mv m (by simp; omega) (by simp; omega)
  have xq := x.mv m (by simp; omega)
  by_cases hlt : i < xss.length
  · rw [if_pos (by simp; omega)]
    obtain ⟨sj, b, rj⟩ := jq
    rw [derefK_some, fldK_some, derefK_some, fldK_some]
    refine (rowAt hrq hlt) fun a sl la rsl hsc => ?_
    rw [loadK_C b]
    refine ⟨_, rfl, ?_⟩
    rw [loadK_C b]
    refine ⟨sj, rfl, ?_⟩
    refine la q hrq rfl _ ?_
    have hrj := rj.len
    rw [hrj, wrapI64 (by omega) (by omega)]
    have hlen := hall _ (List.getElem_mem hlt)
    have hz := hby _ (List.getElem_mem hlt)
    refine refFrame_spec xq (rs.length + i) sl xss[i] rsl hsc (by omega) hz 121 fun sf q3 m3 of => ⟨_, rfl, ?_⟩
    have hs1 := hsn xss[i] (xss.take i) [] rs.length
    rw [List.length_take, Nat.min_eq_left hi, ← List.take_succ_eq_append_getElem hlt, hreal] at hs1
    refine push2_C (by decide) (r.mv m3 (by simp) (by simp)) (by rw [framesT_len, List.length_take]; omega) of.rd of.cap fun s4 q4 m4 r4 => ?_
    rw [wrapSucc (by omega)]
    refine hX _ _ ⟨i + 1, s4, q4, by omega, rfl, rfl, (m.step m3 (by simp)).step m4 (by simp), ?_⟩ (by simp; omega)
    rw [hs1]; exact r4
  rw [if_neg (by simp; omega)]
  clear hX
  rw [List.take_of_length_le (by omega)] at r
  have htot := framesT_total true xss [] rs.length
  have htb := total_bound xss 4096 hall
  have hfl := framesT_len true xss [] rs.length
  obtain ⟨sj, b, rj⟩ := jq
  rw [derefK_some, fldK_some, loadK_C b]
  refine ⟨_, rfl, ?_⟩
  refine RefWrite2_spec hk.1 (by omega) (by omega) (by omega) (by omega) dq s _ r (by omega) (by omega) (fun hfit q2 m2 d2 => ⟨_, rfl, ?_⟩) (fun hfit q2 m2 => ⟨_, rfl, ?_⟩)
  rotate_left
  · try dsimp only
    rw [if_pos (by decide)]
    exact H3 hall hfit q2 (m.step m2 (by simp))
  try dsimp only
  rw [if_neg (by decide)]
  have m' : Mv [kq, kj, kh, 120] g q2 := m.then m2 (by simp)
  have j2 : RjC q2 kj kh ke pj pm pd rs := ⟨sj, b.mv m2 (by simp; omega), rj.mv m2 (by simp; omega) (by simp; omega)⟩
  clear b rj r m m2 dq hrq xq
  refine loopW_rule (fun st h' => ∃ (i : Nat) (q : GH), i ≤ xss.length ∧ st = (i : Int) ∧ h' = q.h ∧ Mv [kq, kj, kh, 120] g q ∧ RefC q kq kr pd A (B ++ (framesT true [] rs.length xss).1.flatten) ∧ RjC q kj kh ke pj pm pd (rs ++ xss.take i)) (fun st => xss.length - st.toNat)
    ⟨0, q2, by omega, rfl, rfl, m', d2, by simpa using j2⟩ ?_
  clear m' d2 j2
  rintro X _ _ ⟨i, q, hi, rfl, rfl, m, d2, j2⟩ hX
  try dsimp only
  by_cases hlt : i < xss.length
  · rw [if_pos (by simp; omega)]
    obtain ⟨y, hy, hyn⟩ := fresh_exists q [kq, kj, kh, ke, kr, d, 120]
    simp only [List.mem_cons, List.mem_nil_iff, or_false, not_or] at hyn
    refine newSl_C q y rfl fun s1 q1 m1 o1 hn1 hc1 => ?_
    have M1 := m.step m1 (by simp)
    refine (hr.mv M1 (by simp; omega)).idx (by kernel_rfl) hlt fun sl rsl hsl => ?_
    have hlen := hall _ (List.getElem_mem hlt)
    have o1' : OwnC T.uint8 1 q1 y s1 (([] : List Int).map byV) := o1
    refine appB o1' rsl (by rw [List.length_nil]; omega) fun s2 q2 m2 o2 => ?_
    rw [List.nil_append] at o2
    have mm : Mv [y] q q2 := m1.then m2 (by simp)
    have e' : Mv [] q (q.via q2 fun k => if k = y then ke else k) := mm.re _ (by simpa using hy)
    have o2' : OwnC T.uint8 1 (q.via q2 fun k => if k = y then ke else k) ke s2 (xss[i].map byV) := by
      have := o2.re (φ := fun k => if k = y then ke else k) mm (.inr hy)
      simpa using this
    generalize hq2 : (q.via q2 fun k => if k = y then ke else k) = q3 at e' o2'
    have hh : q2.h = q3.h := by rw [← hq2]; rfl
    rw [hh]
    have M3 := m.step e' (by simp)
    clear mm o2 o1' M1 m2 m1 o1 hq2 hh rsl
    obtain ⟨sj, b, rj⟩ := j2.mv e' (by simp) (by simp) (by simp)
    have d3 := d2.mv e' (by simp) (by simp)
    rw [derefK_some, fldK_some, loadK_C b]
    refine ⟨sj, rfl, ?_⟩
    refine push2_C hk.2.2.2.2.2.2.2.1 rj (by rw [List.length_append, List.length_take]; omega) o2'.rd o2'.cap fun s3 q4 m4 r4 => ?_
    rw [derefK_some, fldK_some]
    refine store_C (b.mv m4 (by simp; omega)) (by simp) rfl fun q5 m5 b5 => ?_
    rw [wrapSucc (by omega)]
    refine hX _ _ ⟨i + 1, q5, by omega, rfl, rfl, (M3.step m4 (by simp)).step m5 (by simp), (d3.mv m4 (by simp; omega) (by simp; omega)).mv m5 (by simp; omega) (by simp; omega), ⟨s3, b5, ?_⟩⟩ (by simp; omega)
    rw [List.take_succ_eq_append_getElem hlt, ← List.append_assoc]
    exact r4.mv m5 (by simp; omega) (by simp; omega)
  · rw [if_neg (by simp; omega)]
    rw [List.take_of_length_le (by omega)] at j2
    exact H1 hall hfit q m d2 j2

end Go.Proofs.YtgongoaiflphaaaGreat
