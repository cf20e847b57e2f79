/-
  The package msg: the bytes of entries and messages.
-/
import Derived.Test.YtobdneijofchkaaGreatKScribe
set_option linter.unusedSimpArgs false
set_option linter.unusedVariables false
namespace Go.Proofs.YtobdneijofchkaaGreat
open Go Go.Ev

set_option maxHeartbeats 1000000 in
theorem scribeEntries_spec {g : GH} {kp kb c p : Nat} {out : List Int} (hk : kp ≠ kb) (hcp : c ≠ kp) (hcb : c ≠ kb) (hw : WrC g kp kb p 0 out) (v : Sl) (es : List EntryT) (hr : SlC g c ShEntry v es) (hgood : ∀ e ∈ es, entryOk e = true) (hl : out.length + (es.flatMap entryB).length + 200 ≤ 65536) {R : Value → Heap → Prop}
    (H : ∀ g' : GH, Mv [kp, kb] g g' → WrC g' kp kb p 0 (out ++ es.flatMap entryB) → R (.tuple #[]) g'.h) : HC Tryz.prog F.msg_scribe_entries #[.agg (scribeA p), .slice v.a v.n v.c] R g.h := by
  refine msg_scribe_entries.calls (l1 := v) ?_
  unfold msg_scribe_entries.body
  have hn := hr.len
  have hsm := hr.small
  obtain ⟨y, hyp, hyb⟩ : ∃ y, y ≠ kp ∧ y ≠ kb := ⟨kp + kb + 1, by omega, by omega⟩
  have m : Mv [kp, kb] g g := Mv.refl _ _
  refine new_C g y fun ps q1 m1 bs => ?_
  replace m := m.step m1 (by simp [hyp, hyb, hcp, hcb])
  replace hw := hw.mv m1 (by simp [hyp, hyb, hcp, hcb]) (by simp [hyp, hyb, hcp, hcb])
  replace hr := hr.mv m1 (by simp [hyp, hyb, hcp, hcb])
  refine bodies_spec q1 y fun r q2 m2 hm => ⟨_, rfl, ?_⟩
  replace m := m.step m2 (by simp [hyp, hyb, hcp, hcb])
  replace hw := hw.mv m2 (by simp [hyp, hyb, hcp, hcb]) (by simp [hyp, hyb, hcp, hcb])
  replace hr := hr.mv m2 (by simp [hyp, hyb, hcp, hcb])
  replace bs := bs.mv m2 (by simp [hyp, hyb, hcp, hcb])
  refine loopW_rule (fun st h' => ∃ (i : Nat) (q : GH), i ≤ es.length ∧ st = (i : Int) ∧ h' = q.h ∧ Mv [kp, kb] g q ∧ SlC q c ShEntry v es ∧ BlkC q y ps (scribeA p) T.msg_scribe ∧ MapC q y r bodiesL 7 ∧ WrC q kp kb p 0 (out ++ (es.take i).flatMap entryB)) (fun st => es.length - st.toNat)
    ⟨0, q2, by omega, rfl, rfl, m, hr, bs, hm, by simpa using hw⟩ ?_
  clear m hw hr bs hm
  rintro X _ _ ⟨i, q, hi, rfl, rfl, m, hr, bs, hm, hw⟩ hX
  by_cases hlt : i < es.length
  · rw [if_pos (by first | omega | (simp; omega))]
    have hge := entryGood (hgood _ (List.getElem_mem hlt))
    have hle : ((es.take i).flatMap entryB).length + (entryB es[i]).length ≤ (es.flatMap entryB).length := by
      conv => rhs; rw [← List.take_append_drop i es, List.drop_eq_getElem_cons hlt, List.flatMap_append, List.flatMap_cons, List.length_append, List.length_append]
      omega
    have hstep : (es.take (i + 1)).flatMap entryB = (es.take i).flatMap entryB ++ entryB es[i] := by
      rw [List.take_succ_eq_append_getElem hlt, List.flatMap_append]; simp
    generalize hpre : (es.take i).flatMap entryB = pre at hw hle hstep
    refine hr.idxF rfl szEntry (by decide) hlt fun b o hcs ok hel => ?_
    generalize hei : es[i] = e at *
    refine loadEntryAt hcs ok ?_
    rw [zEntry]
    refine newStore_C q y (by rw [szEntry]; exact hel) (by rw [szEntry]; rfl) (fun v hv => Sh.enc_one (s := ShEntry) rfl v hv) fun pe q3 m3 be => ?_
    replace m := m.step m3 (by simp [hyp, hyb, hcp, hcb])
    replace hw := hw.mv m3 (by simp [hyp, hyb, hcp, hcb]) (by simp [hyp, hyb, hcp, hcb])
    replace hr := hr.mv m3 (by simp [hyp, hyb, hcp, hcb])
    replace bs := bs.mv m3 (by simp [hyp, hyb, hcp, hcb])
    replace hm := hm.mv m3 (by simp [hyp, hyb, hcp, hcb])
    have E := entryAt ok (blkCells be)
    have hol : out.length + pre.length + 104 ≤ 65536 := by have := entryB_len ok; omega
    simp only [derefK_some, fldK_some, Nat.zero_add, Nat.add_zero, Nat.reduceAdd, inj_int, inj_bool, inj_str, inj_ptr, inj_map, inj_slice, exists_eq_left, List.getElem?_toArray, List.getElem?_cons_zero, List.getElem?_cons_succ, Option.isNone_some, Option.isNone_none, Bool.not_true, Bool.not_false, Bool.false_eq_true, if_true, if_false, reduceIte, eq_self, not_true_eq_false, not_false_eq_true, bne_self_eq_false, beq_self_eq_true, decide_true, decide_false, decide_eq_true_eq, beq_iff_eq, bne_iff_ne, ne_eq, loadK_C bs]
    refine loadTagAt E.game ok.1 ?_
    refine mkTag1 q3 y e.game ok.1 fun s4 q4 m4 o4 => ?_
    replace m := m.step m4 (by simp [hyp, hyb, hcp, hcb])
    replace hw := hw.mv m4 (by simp [hyp, hyb, hcp, hcb]) (by simp [hyp, hyb, hcp, hcb])
    replace hr := hr.mv m4 (by simp [hyp, hyb, hcp, hcb])
    replace bs := bs.mv m4 (by simp [hyp, hyb, hcp, hcb])
    replace hm := hm.mv m4 (by simp [hyp, hyb, hcp, hcb])
    replace be := be.mv m4 (by simp [hyp, hyb, hcp, hcb])
    have hg32 : e.game.length = 32 := ok.1.1
    refine wTag_to hk hyp hyb hw s4 [e.game] o4 (by simp) (put_tag ok.1.1 (by simp; omega)) fun q5 m5 hw => ⟨_, rfl, ?_⟩
    replace m := m.step m5 (by simp [hyp, hyb, hcp, hcb])
    replace hr := hr.mv m5 (by simp [hyp, hyb, hcp, hcb])
    replace bs := bs.mv m5 (by simp [hyp, hyb, hcp, hcb])
    replace hm := hm.mv m5 (by simp [hyp, hyb, hcp, hcb])
    replace be := be.mv m5 (by simp [hyp, hyb, hcp, hcb])
    have E := entryAt ok (blkCells be)
    simp only [derefK_some, fldK_some, Nat.zero_add, Nat.add_zero, Nat.reduceAdd, inj_int, inj_bool, inj_str, inj_ptr, inj_map, inj_slice, exists_eq_left, List.getElem?_toArray, List.getElem?_cons_zero, List.getElem?_cons_succ, Option.isNone_some, Option.isNone_none, Bool.not_true, Bool.not_false, Bool.false_eq_true, if_true, if_false, reduceIte, eq_self, not_true_eq_false, not_false_eq_true, bne_self_eq_false, beq_self_eq_true, decide_true, decide_false, decide_eq_true_eq, beq_iff_eq, bne_iff_ne, ne_eq, loadK_C bs]
    refine loadK_cells E.number (k := .int .i64) (j := 0) e.number rfl rfl ?_
    refine newSl_C q5 y rfl fun s6 q6 m6 o6 _ _ => ?_
    replace m := m.step m6 (by simp [hyp, hyb, hcp, hcb])
    replace hw := hw.mv m6 (by simp [hyp, hyb, hcp, hcb]) (by simp [hyp, hyb, hcp, hcb])
    replace hr := hr.mv m6 (by simp [hyp, hyb, hcp, hcb])
    replace bs := bs.mv m6 (by simp [hyp, hyb, hcp, hcb])
    replace hm := hm.mv m6 (by simp [hyp, hyb, hcp, hcb])
    replace be := be.mv m6 (by simp [hyp, hyb, hcp, hcb])
    refine wNumber_to hk hyp hyb hw s6 [e.number] o6.rd (by simp) (put_num hge.1 (by simp; omega)) fun q7 m7 hw => ⟨_, rfl, ?_⟩
    replace m := m.step m7 (by simp [hyp, hyb, hcp, hcb])
    replace hr := hr.mv m7 (by simp [hyp, hyb, hcp, hcb])
    replace bs := bs.mv m7 (by simp [hyp, hyb, hcp, hcb])
    replace hm := hm.mv m7 (by simp [hyp, hyb, hcp, hcb])
    replace be := be.mv m7 (by simp [hyp, hyb, hcp, hcb])
    have E := entryAt ok (blkCells be)
    simp only [derefK_some, fldK_some, Nat.zero_add, Nat.add_zero, Nat.reduceAdd, inj_int, inj_bool, inj_str, inj_ptr, inj_map, inj_slice, exists_eq_left, List.getElem?_toArray, List.getElem?_cons_zero, List.getElem?_cons_succ, Option.isNone_some, Option.isNone_none, Bool.not_true, Bool.not_false, Bool.false_eq_true, if_true, if_false, reduceIte, eq_self, not_true_eq_false, not_false_eq_true, bne_self_eq_false, beq_self_eq_true, decide_true, decide_false, decide_eq_true_eq, beq_iff_eq, bne_iff_ne, ne_eq, loadK_C bs]
    refine loadTagAt E.ahead ok.2.2.1 ?_
    refine mkTag1 q7 y e.ahead ok.2.2.1 fun s8 q8 m8 o8 => ?_
    replace m := m.step m8 (by simp [hyp, hyb, hcp, hcb])
    replace hw := hw.mv m8 (by simp [hyp, hyb, hcp, hcb]) (by simp [hyp, hyb, hcp, hcb])
    replace hr := hr.mv m8 (by simp [hyp, hyb, hcp, hcb])
    replace bs := bs.mv m8 (by simp [hyp, hyb, hcp, hcb])
    replace hm := hm.mv m8 (by simp [hyp, hyb, hcp, hcb])
    replace be := be.mv m8 (by simp [hyp, hyb, hcp, hcb])
    have ha32 : e.ahead.length = 32 := ok.2.2.1.1
    refine wTag_to hk hyp hyb hw s8 [e.ahead] o8 (by simp) (put_tag ok.2.2.1.1 (by simp [fourB_length]; omega)) fun q9 m9 hw => ⟨_, rfl, ?_⟩
    replace m := m.step m9 (by simp [hyp, hyb, hcp, hcb])
    replace hr := hr.mv m9 (by simp [hyp, hyb, hcp, hcb])
    replace bs := bs.mv m9 (by simp [hyp, hyb, hcp, hcb])
    replace hm := hm.mv m9 (by simp [hyp, hyb, hcp, hcb])
    replace be := be.mv m9 (by simp [hyp, hyb, hcp, hcb])
    have E := entryAt ok (blkCells be)
    have okb : ShBody.ok e.what := ok.2.2.2.1
    have B := bodyAt okb E.what
    simp only [derefK_some, fldK_some, Nat.zero_add, Nat.add_zero, Nat.reduceAdd, inj_int, inj_bool, inj_str, inj_ptr, inj_map, inj_slice, exists_eq_left, List.getElem?_toArray, List.getElem?_cons_zero, List.getElem?_cons_succ, Option.isNone_some, Option.isNone_none, Bool.not_true, Bool.not_false, Bool.false_eq_true, if_true, if_false, reduceIte, eq_self, not_true_eq_false, not_false_eq_true, bne_self_eq_false, beq_self_eq_true, decide_true, decide_false, decide_eq_true_eq, beq_iff_eq, bne_iff_ne, ne_eq, loadK_C bs]
    refine loadK_cells B.say (k := .int .i64) (j := 0) e.what.say rfl rfl ?_
    refine newSl_C q9 y rfl fun s10 q10 m10 o10 _ _ => ?_
    replace m := m.step m10 (by simp [hyp, hyb, hcp, hcb])
    replace hw := hw.mv m10 (by simp [hyp, hyb, hcp, hcb]) (by simp [hyp, hyb, hcp, hcb])
    replace hr := hr.mv m10 (by simp [hyp, hyb, hcp, hcb])
    replace bs := bs.mv m10 (by simp [hyp, hyb, hcp, hcb])
    replace hm := hm.mv m10 (by simp [hyp, hyb, hcp, hcb])
    replace be := be.mv m10 (by simp [hyp, hyb, hcp, hcb])
    have hsay : isByte e.what.say := by have := bodyGood hge.2; unfold isByte; omega
    refine wByte_to hk hyp hyb hw s10 [e.what.say] o10.rd (by simp) (put_bytes (fun x hx => by simp only [List.mem_singleton] at hx; subst hx; exact hsay) (by simp [fourB_length]; omega)) fun q11 m11 hw => ⟨_, rfl, ?_⟩
    replace m := m.step m11 (by simp [hyp, hyb, hcp, hcb])
    replace hr := hr.mv m11 (by simp [hyp, hyb, hcp, hcb])
    replace bs := bs.mv m11 (by simp [hyp, hyb, hcp, hcb])
    replace hm := hm.mv m11 (by simp [hyp, hyb, hcp, hcb])
    replace be := be.mv m11 (by simp [hyp, hyb, hcp, hcb])
    have E := entryAt ok (blkCells be)
    have B := bodyAt okb E.what
    simp only [derefK_some, fldK_some, Nat.zero_add, Nat.add_zero, Nat.reduceAdd, inj_int, inj_bool, inj_str, inj_ptr, inj_map, inj_slice, exists_eq_left, List.getElem?_toArray, List.getElem?_cons_zero, List.getElem?_cons_succ, Option.isNone_some, Option.isNone_none, Bool.not_true, Bool.not_false, Bool.false_eq_true, if_true, if_false, reduceIte, eq_self, not_true_eq_false, not_false_eq_true, bne_self_eq_false, beq_self_eq_true, decide_true, decide_false, decide_eq_true_eq, beq_iff_eq, bne_iff_ne, ne_eq]
    refine loadK_cells B.say (k := .int .i64) (j := 0) e.what.say rfl rfl ?_
    refine dispatch hk hm hw e.what okb hge.2 (by simp [fourB_length]; omega) (R := fun h => X (IntKind.i64.wrap ((i : Int) + 1)) h) (fun q12 m12 hw => ?_) (fun fv hfv => ?_)
    · try dsimp only
      replace m := m.step m12 (by simp [hyp, hyb, hcp, hcb])
      replace hr := hr.mv m12 (by simp [hyp, hyb, hcp, hcb])
      replace bs := bs.mv m12 (by simp [hyp, hyb, hcp, hcb])
      replace hm := hm.mv m12 (by simp [hyp, hyb, hcp, hcb])
      rw [wrapSucc (by omega)]
      refine hX _ _ ⟨i + 1, q12, by omega, rfl, rfl, m, hr, bs, hm, ?_⟩ (by simp; omega)
      rw [hstep]
      unfold entryB
      simpa only [List.append_assoc, List.cons_append, List.nil_append, List.singleton_append] using hw
    · refine loadAgg_whole bs szScribe ?_
      refine loadBodyAt E.what okb ?_
      exact hfv
  · rw [if_neg (by first | omega | (simp; omega))]
    have hi' : i = es.length := by omega
    subst hi'
    rw [List.take_length] at hw
    exact H q m hw

theorem mkEntry1 (q : GH) (y : Nat) (e : EntryT) (ok : ShEntry.ok e) {K : Sl → Heap → Prop} (H : ∀ (s : Sl) (g' : GH), Mv [] q g' → SlC g' y ShEntry s [e] → K s g'.h) : opK Tryz.prog .slice (Instr.buildSlice T.sl_api_Entry 1 #[(0, .agg ⟨ShEntry.enc e⟩)]) K q.h :=
  mkEntry_C q y ok fun s g' m o hc => H s g' m (o.slc rfl (by simp))

theorem putEntry_spec (g : GH) (c : Nat) (e : EntryT) (ok : ShEntry.ok e) {R : Value → Heap → Prop}
    (H1 : entryOk e = true → ∀ (s : Sl) (g' : GH), Mv [] g g' → OwnC T.uint8 1 g' c s ((entryB e).map byV) → R (.tuple #[.slice s.a s.n s.c, .int .i64 0]) g'.h)
    (H2 : entryOk e = false → ∀ g' : GH, Mv [] g g' → R (.tuple #[.slice none 0 0, .int .i64 2]) g'.h) : HC Tryz.prog F.msg_PutEntry #[.agg ⟨ShEntry.enc e⟩] R g.h := by
  refine msg_PutEntry.calls ?_
  unfold msg_PutEntry.body
  have m : Mv [1, 2] g.base g.base := Mv.refl _ _
  refine new_C g.base 3 fun p q1 m1 hb => ?_
  replace m := m.step m1 (by simp)
  refine loadEntryAt (blkCells hb) ok ?_
  refine msgEntry_spec q1 e ok fun q2 m2 => ⟨_, rfl, ?_⟩
  replace m := m.step m2 (by simp)
  replace hb := hb.mv m2 (by simp)
  try dsimp only
  cases hg : entryOk e with
  | false =>
    rw [if_pos (by simp)]
    exact H2 hg (g.via q2 fun _ => 0) (m.via (by simp) _)
  | true =>
    rw [if_neg (by simp)]
    refine codecNew_spec q2 1 2 fun pw q3 m3 hw => ⟨_, rfl, ?_⟩
    replace m := m.step m3 (by simp)
    replace hb := hb.mv m3 (by simp)
    refine ⟨scribeA pw, fun w => by kernel_rfl, ?_⟩
    rw [zScribe]
    refine newStore_C q3 3 (by rw [szScribe]; rfl) (by rw [szScribe]; rfl) (by simp [Value.oneCell']) fun ps q4 m4 bs => ?_
    replace m := m.step m4 (by simp)
    replace hb := hb.mv m4 (by simp)
    replace hw := hw.mv m4 (by simp) (by simp)
    refine loadAgg_whole bs szScribe ?_
    refine loadEntryAt (blkCells hb) ok ?_
    refine mkEntry1 q4 3 e ok fun s5 q5 m5 o5 => ?_
    replace m := m.step m5 (by simp)
    replace hb := hb.mv m5 (by simp)
    replace hw := hw.mv m5 (by simp) (by simp)
    replace bs := bs.mv m5 (by simp)
    have hle := entryB_len ok
    refine scribeEntries_spec (by decide) (by decide) (by decide) hw s5 [e] o5 (fun x hx => by simp only [List.mem_singleton] at hx; subst hx; exact hg) (by simp; omega) fun q6 m6 hw => ⟨(), rfl, ?_⟩
    replace m := m.step m6 (by simp)
    replace bs := bs.mv m6 (by simp)
    simp only [derefK_some, fldK_some, Nat.zero_add, Nat.add_zero, Nat.reduceAdd, inj_int, inj_bool, inj_str, inj_ptr, inj_map, inj_slice, exists_eq_left, List.getElem?_toArray, List.getElem?_cons_zero, List.getElem?_cons_succ, Option.isNone_some, Option.isNone_none, Bool.not_true, Bool.not_false, Bool.false_eq_true, if_true, if_false, reduceIte, eq_self, not_true_eq_false, not_false_eq_true, bne_self_eq_false, beq_self_eq_true, decide_true, decide_false, decide_eq_true_eq, beq_iff_eq, bne_iff_ne, ne_eq, loadK_C bs]
    have hfl : ([] : List Int) ++ [e].flatMap entryB = entryB e := by simp
    rw [hfl] at hw
    refine wOut_spec 3 hw (fun _ s7 q7 m7 o7 => ⟨(s7, 0), rfl, ?_⟩) (fun h => absurd rfl h)
    replace m := m.step m7 (by simp)
    exact H1 hg s7 (g.via q7 fun _ => c) (m.via (by simp) _) (o7.via m (by simp) _)

end Go.Proofs.YtobdneijofchkaaGreat

/-!
  The bytes of any message, of any entry.
-/
namespace Go.Proofs.YtobdneijofchkaaGreat
open Go Go.Ev

def errIf (b : Bool) : Int := if b = true then 0 else 2
theorem putEntry_any (g : GH) (c : Nat) (x : EntryT) (ok : ShEntry.ok x) {R : Value → Heap → Prop} (H : ∀ (s : Sl) (g' : GH), Mv [] g g' → RdC 1 g' c s ((bytesIf (entryOk x) (entryB x)).map byV) → s.n ≤ s.c → R (.tuple #[.slice s.a s.n s.c, .int .i64 (errIf (entryOk x))]) g'.h) : HC Tryz.prog F.msg_PutEntry #[.agg ⟨ShEntry.enc x⟩] R g.h := by
  refine putEntry_spec g c x ok (fun h s g' m o => ?_) (fun h g' m => ?_)
  · have := H s g' m (by rw [h]; exact o.rd) o.cap
    rw [h] at this; exact this
  · have := H ⟨none, 0, 0⟩ g' m (by rw [h]; exact RdC.nil _ _ _ _ _) (Nat.le_refl _)
    rw [h] at this; exact this

end Go.Proofs.YtobdneijofchkaaGreat
