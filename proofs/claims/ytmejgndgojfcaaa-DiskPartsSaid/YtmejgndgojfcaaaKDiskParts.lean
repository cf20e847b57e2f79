/-
  The law DiskParts: what it answers.
-/
import Derived.Test.YtmejgndgojfcaaaKLaw25
set_option linter.unusedSimpArgs false
set_option linter.unusedVariables false
namespace Go.Proofs.Ytmejgndgojfcaaa
open Go Go.Ev

theorem buildSl_Deed2 (x y : Sl) (w : World) : (Instr.buildSlice T.sl_zugzwanglaw25_Deed 2 #[(0, .agg #[.int .i64 0, .int .i64 0, slV x]), (1, .agg #[.int .i64 0, .int .i64 0, slV y])]).run Try.prog w =
    .ok (.slice (some ⟨w.heap.size, 0, none⟩) 2 2) { w with heap := w.heap.push (.cells #[.int .i64 0, .int .i64 0, slV x, .int .i64 0, .int .i64 0, slV y] T.zugzwanglaw25_Deed (0, 0)) } := by kernel_rfl

/-- Rows are written one by one. -/
theorem write_loop {q0 : GH} {kp kb p safe : Nat} {bs : List Int} (hk : kp ≠ kb) (hp0 : 0 ≠ kp) (hb0 : 0 ≠ kb) {K : List Nat} {g : GH} (hkp : kp ∈ K) (hkb : kb ∈ K) (h0 : 0 ∉ K) (v : Sl) (xss : List (List Int)) (hr : RowsC q0 0 v xss) (m0 : Mv K g q0) (hd : DiskC q0 kp kb p safe bs) (ht : bs.length + total xss ≤ 1048576)
    (hl : xss.length ≤ 1000000) {G : Int → Heap → Prop} (hF : ∀ (q : GH), Mv [kp, kb] q0 q → Mv K g q → DiskC q kp kb p safe (bs ++ xss.flatten) → G (xss.length : Int) q.h) :
    loopW (fun X (s : Int) (h : Heap) => if s < (v.n : Int) then
      idxK v s (sizeOfT Try.prog T.sl_uint8) (fun a => loadK .slice h (some a) (fun w => newSlK h 1 #[.slice w.a w.n w.c] T.sl_uint8 (fun u h =>
        callK Try.prog (.int .i64) F.disk_Disk_Write #[.pointer (some ⟨p, 0, none⟩), .slice u.a u.n u.c] (fun _ h => X (IntKind.i64.wrap (s + 1)) h) h)))
      else G s h) 0 q0.h := by
  have hn := hr.len
  refine loopW_rule (fun st h' => ∃ (i : Nat) (q : GH), i ≤ xss.length ∧ st = (i : Int) ∧ h' = q.h ∧ Mv [kp, kb] q0 q ∧ DiskC q kp kb p safe (bs ++ (xss.take i).flatten)) (fun st => xss.length - st.toNat) ⟨0, q0, by omega, rfl, rfl, Mv.refl _ _, by simpa using hd⟩ ?_
  rintro X _ _ ⟨i, q, hi, rfl, rfl, m, d⟩ hX
  have hle := total_le (xss := xss) i
  by_cases hlt : i < xss.length
  · rw [if_pos (by omega)]
    have hr' := hr.mv m (by simp [hp0, hb0])
    refine hr'.idx (by kernel_rfl) hlt fun s1 r1 hc1 => ?_
    refine newSl_C q 0 rfl fun s2 q2 m2 o2 _ _ => ?_
    have r2 : RowsC q2 0 s2 [xss[i]] := RowsC.one o2.rd (r1.mv m2 (by simp)) hc1
    have h2 := total_take hlt
    have h3 := total_le (xss := xss) (i + 1)
    have h4 : total [xss[i]] = (xss[i]'hlt).length := by simp [total]
    have hfl : (bs ++ (xss.take i).flatten).length = bs.length + total (xss.take i) := by simp [total]
    refine Write_spec hk hp0 hb0 (d.mv m2 (by simp) (by simp)) s2 _ r2 (by omega) (by simp) (fun _ q3 m3 d3 => ⟨_, rfl, ?_⟩) (fun h => by omega)
    dsimp only
    rw [wrapSucc (by omega)]
    refine hX _ _ ⟨i + 1, q3, by omega, rfl, rfl, (m.step m2 (by simp)).step m3 (fun k hk => hk), ?_⟩ (by simp; omega)
    rw [List.take_succ_eq_append_getElem hlt, List.flatten_append, ← List.append_assoc]
    simpa using d3
  · rw [if_neg (by omega)]
    have hi' : i = xss.length := by omega
    subst hi'
    rw [List.take_length] at d
    exact hF q m (m0.step m fun k hk => by simp at hk; rcases hk with rfl | rfl <;> assumption) d


theorem deedsSize_two (a b : List (List Int)) (x y z w : Int) : deedsSize [(x, y, a, ()), (z, w, b, ())] = 2 + (a.length + total a + (b.length + total b)) := by
  simp [deedsSize, deedSize]

theorem DiskParts_spec (g : GH) (va vb : Sl) (a b : List (List Int)) (n : Int) (hn : -9223372036854775808 ≤ n ∧ n ≤ 9223372036854775807) {c d : Nat} (ha : SlC g c (.sl (.int .u8)) va a) (hb : SlC g d (.sl (.int .u8)) vb b) {R : Value → Heap → Prop} (H : ∀ g' : GH, Mv [] g g' → R (.bool true) g'.h) :
    HC Try.prog F.law25_DiskParts #[.slice va.a va.n va.c, .slice vb.a vb.n vb.c, .int .i64 n] R g.h := by
  refine law25_DiskParts.calls (a0 := va) (b1 := vb) ?_
  unfold law25_DiskParts.body
  have fin : ∀ (K : List Nat) (q : GH), Mv K g.base q → 0 ∉ K → R (.bool true) q.h := fun K q m h0 => H (g.via q fun _ => 0) (m.via h0 _)
  refine awake_spec g.base fun q1 m1 => ⟨_, rfl, ?_⟩
  dsimp only
  rw [if_neg (by decide)]
  have m : Mv [1, 2, 3, 4] g.base q1 := m1.mono (by simp)
  refine ⟨_, build_Deed va, _, build_Deed vb, ?_⟩
  refine buildSl_C (e := T.zugzwanglaw25_Deed) (sz := 3) q1 0 _ (buildSl_Deed2 va vb) rfl fun s q2 m2 o2 hsn hsc => ?_
  replace m := m.step m2 (by simp)
  have la := ha.arg m (by simp)
  have lb := hb.arg m (by simp)
  have ls : SlC q2 0 ShDeed s [(0, 0, a, ()), (0, 0, b, ())] := SlC.two (k := [.int .i64 0, .int .i64 0, slV va]) (k' := [.int .i64 0, .int .i64 0, slV vb]) (by omega) hsn o2.rd (LayC.mkDeed la 0 0 (by omega) (by omega)) (LayC.mkDeed lb 0 0 (by omega) (by omega))
  refine size_spec s _ ls fun k _ hk _ => ⟨_, rfl, ?_⟩
  try simp only [derefK_some, fldK_some, Nat.zero_add, Nat.add_zero, Nat.reduceAdd, inj_int, inj_bool, inj_str, inj_ptr, inj_map, inj_slice, exists_eq_left, List.getElem?_toArray, List.getElem?_cons_zero, List.getElem?_cons_succ, Option.isNone_some, Option.isNone_none, Bool.not_true, Bool.not_false, Bool.false_eq_true, if_true, if_false, reduceIte, eq_self, not_true_eq_false, not_false_eq_true, bne_self_eq_false, beq_self_eq_true, decide_true, decide_false, decide_eq_true_eq, beq_iff_eq, bne_iff_ne, ne_eq]
  by_cases hbig : (k : Int) > 2000
  · rw [if_pos hbig]
    exact fin _ _ m (by simp)
  rw [if_neg hbig]
  have hsz := hk (by omega)
  rw [deedsSize_two] at hsz
  have ra := la.rows.1
  have rb := lb.rows.1
  refine NewDisk_spec q2 1 2 (by decide) va a ra (by omega) (by omega) (fun p q3 _ m3 d3 => ⟨(_, _), rfl, ?_⟩) (fun _ h => absurd (by omega) h)
  replace m := m.step m3 (by simp)
  refine NewDisk_spec q3 3 4 (by decide) ⟨none, 0, 0⟩ [] (RowsC.nil q3 0 _ _) (by decide) (by decide) (fun p' q4 _ m4 e4 => ⟨(_, _), rfl, ?_⟩) (fun _ h => absurd (by decide) h)
  replace m := m.step m4 (by simp)
  replace d3 := d3.mv m4 (by simp) (by simp)
  replace ra := (ra.mv m3 (by simp)).mv m4 (by simp)
  replace rb := (rb.mv m3 (by simp)).mv m4 (by simp)
  try simp only [derefK_some, fldK_some, Nat.zero_add, Nat.add_zero, Nat.reduceAdd, inj_int, inj_bool, inj_str, inj_ptr, inj_map, inj_slice, exists_eq_left, List.getElem?_toArray, List.getElem?_cons_zero, List.getElem?_cons_succ, Option.isNone_some, Option.isNone_none, Bool.not_true, Bool.not_false, Bool.false_eq_true, if_true, if_false, reduceIte, eq_self, not_true_eq_false, not_false_eq_true, bne_self_eq_false, beq_self_eq_true, decide_true, decide_false, decide_eq_true_eq, beq_iff_eq, bne_iff_ne, ne_eq]
  refine write_loop (q0 := q4) (K := [1, 2, 3, 4]) (g := g.base) (kp := 3) (kb := 4) (p := p') (safe := 0) (bs := []) (by decide) (by decide) (by decide) (by simp) (by simp) (by simp) va a ra m e4 (by simp; omega) (by omega) fun q5 n5 m5 e5 => ?_
  replace d3 := d3.mv n5 (by simp) (by simp)
  replace ra := ra.mv n5 (by simp)
  replace rb := rb.mv n5 (by simp)
  rw [List.nil_append] at e5
  refine Sync_spec (by decide) e5 fun q6 m6 e6 => ⟨_, rfl, ?_⟩
  replace d3 := d3.mv m6 (by simp) (by simp)
  replace rb := rb.mv m6 (by simp)
  replace m5 := m5.step m6 (by simp)
  dsimp only
  refine Write_spec (by decide) (by decide) (by decide) d3 vb b rb (by omega) (by omega) (fun _ q7 m7 d7 => ⟨_, rfl, ?_⟩) (fun h => absurd (by show total a + total b ≤ _; omega) h)
  replace e6 := e6.mv m7 (by simp) (by simp)
  replace rb := rb.mv m7 (by simp)
  replace m5 := m5.step m7 (by simp)
  try simp only [derefK_some, fldK_some, Nat.zero_add, Nat.add_zero, Nat.reduceAdd, inj_int, inj_bool, inj_str, inj_ptr, inj_map, inj_slice, exists_eq_left, List.getElem?_toArray, List.getElem?_cons_zero, List.getElem?_cons_succ, Option.isNone_some, Option.isNone_none, Bool.not_true, Bool.not_false, Bool.false_eq_true, if_true, if_false, reduceIte, eq_self, not_true_eq_false, not_false_eq_true, bne_self_eq_false, beq_self_eq_true, decide_true, decide_false, decide_eq_true_eq, beq_iff_eq, bne_iff_ne, ne_eq]
  refine write_loop (q0 := q7) (K := [1, 2, 3, 4]) (g := g.base) (kp := 3) (kb := 4) (p := p') (by decide) (by decide) (by decide) (by simp) (by simp) (by simp) vb b rb m5 e6 (by show total a + total b ≤ _; omega) (by omega) fun q8 n8 m8 e8 => ?_
  replace d7 := d7.mv n8 (by simp) (by simp)
  have hab : (a.flatten ++ b.flatten).length = total a + total b := by rw [List.length_append]; rfl
  have hta : a.flatten.length = total a := rfl
  rw [hta] at e8
  generalize a.flatten ++ b.flatten = ab at d7 e8 hab
  refine Bytes_spec' q8 5 d7 fun s1 q9 m9 o1 => ⟨s1, rfl, ?_⟩
  replace d7 := d7.mv m9 (by simp) (by simp)
  replace e8 := e8.mv m9 (by simp) (by simp)
  replace m8 := m8.step m9 (by simp)
  refine Bytes_spec' q9 5 e8 fun s2 q10 m10 o2 => ⟨s2, rfl, ?_⟩
  replace d7 := d7.mv m10 (by simp) (by simp)
  replace e8 := e8.mv m10 (by simp) (by simp)
  replace m8 := m8.step m10 (by simp)
  refine SameBytes_spec s1 s2 _ _ (o1.rd.mv m10 (by simp)).rd o2.rd.rd (by omega) (by omega) ⟨_, rfl, ?_⟩
  try simp only [derefK_some, fldK_some, Nat.zero_add, Nat.add_zero, Nat.reduceAdd, inj_int, inj_bool, inj_str, inj_ptr, inj_map, inj_slice, exists_eq_left, List.getElem?_toArray, List.getElem?_cons_zero, List.getElem?_cons_succ, Option.isNone_some, Option.isNone_none, Bool.not_true, Bool.not_false, Bool.false_eq_true, if_true, if_false, reduceIte, eq_self, not_true_eq_false, not_false_eq_true, bne_self_eq_false, beq_self_eq_true, decide_true, decide_false, decide_eq_true_eq, beq_iff_eq, bne_iff_ne, ne_eq]
  refine Synced_spec d7 ⟨_, rfl, ?_⟩
  refine Synced_spec e8 ⟨_, rfl, ?_⟩
  try simp only [derefK_some, fldK_some, Nat.zero_add, Nat.add_zero, Nat.reduceAdd, inj_int, inj_bool, inj_str, inj_ptr, inj_map, inj_slice, exists_eq_left, List.getElem?_toArray, List.getElem?_cons_zero, List.getElem?_cons_succ, Option.isNone_some, Option.isNone_none, Bool.not_true, Bool.not_false, Bool.false_eq_true, if_true, if_false, reduceIte, eq_self, not_true_eq_false, not_false_eq_true, bne_self_eq_false, beq_self_eq_true, decide_true, decide_false, decide_eq_true_eq, beq_iff_eq, bne_iff_ne, ne_eq]
  refine Len_spec d7 ⟨_, rfl, ?_⟩
  dsimp only
  rw [wrapI64 (n := ((ab.length : Nat) : Int) + 1) (by omega) (by omega)]
  refine Pick_spec n _ hn (by omega) ⟨_, rfl, ?_⟩
  have hpk : 0 ≤ n % ((ab.length : Nat) + 1 : Int) ∧ n % ((ab.length : Nat) + 1 : Int) < (ab.length : Nat) + 1 := ⟨Int.emod_nonneg _ (by omega), Int.emod_lt_of_pos _ (by omega)⟩
  obtain ⟨k', hk'⟩ : ∃ k' : Nat, n % ((ab.length : Nat) + 1 : Int) = (k' : Int) := ⟨(n % ((ab.length : Nat) + 1 : Int)).toNat, by omega⟩
  rw [hk'] at hpk ⊢
  refine Bytes_spec' q10 5 d7 fun was q11 m11 ow => ⟨was, rfl, ?_⟩
  replace d7 := d7.mv m11 (by simp) (by simp)
  replace m8 := m8.step m11 (by simp)
  have hwn := ow.len
  simp only [List.length_map] at hwn
  dsimp only
  refine Cut_spec (by decide) d7 _ (fun _ q12 m12 d12 => ⟨_, rfl, ?_⟩) (fun h => absurd (by omega) h)
  replace ow := ow.mv m12 (by simp)
  replace m8 := m8.step m12 (by simp)
  have hwt : ((was.n : Nat) : Int).toNat = ab.length := by omega
  rw [hwt, List.take_length] at d12
  try simp only [derefK_some, fldK_some, Nat.zero_add, Nat.add_zero, Nat.reduceAdd, inj_int, inj_bool, inj_str, inj_ptr, inj_map, inj_slice, exists_eq_left, List.getElem?_toArray, List.getElem?_cons_zero, List.getElem?_cons_succ, Option.isNone_some, Option.isNone_none, Bool.not_true, Bool.not_false, Bool.false_eq_true, if_true, if_false, reduceIte, eq_self, not_true_eq_false, not_false_eq_true, bne_self_eq_false, beq_self_eq_true, decide_true, decide_false, decide_eq_true_eq, beq_iff_eq, bne_iff_ne, ne_eq]
  refine Synced_spec d12 ⟨_, rfl, ?_⟩
  dsimp only
  rw [if_pos (by rw [hwn])]
  refine Bytes_spec' q12 5 d12 fun s3 q13 m13 o3 => ⟨s3, rfl, ?_⟩
  replace d12 := d12.mv m13 (by simp) (by simp)
  replace ow := ow.mv m13 (by simp)
  replace m8 := m8.step m13 (by simp)
  refine SameBytes_spec s3 was _ _ o3.rd.rd ow.rd.rd (by omega) (by omega) ⟨_, rfl, ?_⟩
  rw [decide_eq_true rfl]
  try simp only [derefK_some, fldK_some, Nat.zero_add, Nat.add_zero, Nat.reduceAdd, inj_int, inj_bool, inj_str, inj_ptr, inj_map, inj_slice, exists_eq_left, List.getElem?_toArray, List.getElem?_cons_zero, List.getElem?_cons_succ, Option.isNone_some, Option.isNone_none, Bool.not_true, Bool.not_false, Bool.false_eq_true, if_true, if_false, reduceIte, eq_self, not_true_eq_false, not_false_eq_true, bne_self_eq_false, beq_self_eq_true, decide_true, decide_false, decide_eq_true_eq, beq_iff_eq, bne_iff_ne, ne_eq]
  refine Cut_spec (by decide) d12 _ (fun _ q14 m14 d14 => ⟨_, rfl, ?_⟩) (fun h => absurd (by omega) h)
  replace ow := ow.mv m14 (by simp)
  replace m8 := m8.step m14 (by simp)
  rw [Int.toNat_natCast] at d14
  try simp only [derefK_some, fldK_some, Nat.zero_add, Nat.add_zero, Nat.reduceAdd, inj_int, inj_bool, inj_str, inj_ptr, inj_map, inj_slice, exists_eq_left, List.getElem?_toArray, List.getElem?_cons_zero, List.getElem?_cons_succ, Option.isNone_some, Option.isNone_none, Bool.not_true, Bool.not_false, Bool.false_eq_true, if_true, if_false, reduceIte, eq_self, not_true_eq_false, not_false_eq_true, bne_self_eq_false, beq_self_eq_true, decide_true, decide_false, decide_eq_true_eq, beq_iff_eq, bne_iff_ne, ne_eq]
  refine Fall_spec (by decide) d14 9 fun q15 m15 d15 => ⟨_, rfl, ?_⟩
  replace ow := ow.mv m15 (by simp)
  replace m8 := m8.step m15 (by simp)
  have hff : fallTo k' (ab.take k').length 9 = k' := by unfold fallTo; rw [List.length_take]; omega
  rw [hff, List.take_take, Nat.min_self] at d15
  try simp only [derefK_some, fldK_some, Nat.zero_add, Nat.add_zero, Nat.reduceAdd, inj_int, inj_bool, inj_str, inj_ptr, inj_map, inj_slice, exists_eq_left, List.getElem?_toArray, List.getElem?_cons_zero, List.getElem?_cons_succ, Option.isNone_some, Option.isNone_none, Bool.not_true, Bool.not_false, Bool.false_eq_true, if_true, if_false, reduceIte, eq_self, not_true_eq_false, not_false_eq_true, bne_self_eq_false, beq_self_eq_true, decide_true, decide_false, decide_eq_true_eq, beq_iff_eq, bne_iff_ne, ne_eq]
  have hwc := ow.cap
  refine slice_to ow.plain rfl (by omega) ?_
  refine Bytes_spec' q15 5 d15 fun s4 q16 m16 o4 => ⟨s4, rfl, ?_⟩
  replace ow := ow.mv m16 (by simp)
  replace m8 := m8.step m16 (by simp)
  have e := ow.rd.take (n := k') (k := was.c) (by simp; omega)
  rw [← List.map_take] at e
  refine SameBytes_spec s4 ⟨was.a, k', was.c⟩ _ _ o4.rd.rd e.rd (by simp; omega) (by simp; omega) ⟨_, rfl, ?_⟩
  rw [decide_eq_true rfl]
  exact fin _ _ m8 (by simp)

theorem DiskParts_walk {h : Heap} (a : Option Addr) (la ca : Nat) (x : List (List Int)) (w : Lay h (.sl (.sl (.int .u8))) x [.slice a la ca]) (b : Option Addr) (lb cb : Nat) (y : List (List Int)) (w' : Lay h (.sl (.sl (.int .u8))) y [.slice b lb cb]) (n : Int) (hn : (Lit.int .i64 n).wf = true) :
    HC Try.prog F.law25_DiskParts #[.slice a la ca, .slice b lb cb, .int .i64 n] (fun v h' => v = .bool true ∧ Ext h h') h :=
  DiskParts_spec ⟨h, fun _ => 0⟩ ⟨a, la, ca⟩ ⟨b, lb, cb⟩ x y n (wf_i64 hn) (c := 0) (d := 0) (w.arg (Mv.refl [] _) (by simp)) (w'.arg (Mv.refl [] _) (by simp)) fun g' m => ⟨rfl, m.ext (by simp)⟩
end Go.Proofs.Ytmejgndgojfcaaa
