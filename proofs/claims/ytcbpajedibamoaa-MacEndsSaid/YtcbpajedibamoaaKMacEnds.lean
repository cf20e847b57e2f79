/-
  The ends: keys and texts about a block, and every bit of a tag turned.
-/
import Derived.Test.YtcbpajedibamoaaKMacSame2
set_option linter.unusedSimpArgs false
set_option linter.unusedVariables false
namespace Go.Proofs.Ytcbpajedibamoaa
open Go Go.Ev

theorem zeroBy (n : Nat) : List.replicate n (Value.int .u8 0) = (List.replicate n (0 : Int)).map byV := by rw [List.map_replicate]
theorem zeroIs (n : Nat) : ∀ x ∈ List.replicate n (0 : Int), isByte x := fun x hx => by rw [(List.mem_replicate.1 hx).2]; unfold isByte; omega
theorem rowSl {g : GH} {c : Nat} {v : Sl} {xs : List Int} (r : RdC 1 g c v (xs.map byV)) (hc : v.n ≤ v.c) (hs : xs.length ≤ 1000000) (h : ∀ x ∈ xs, isByte x) : SlC g c (.int .u8) v xs := .ofInts r hc (by omega) fun x hx => h x hx
theorem rowOne' {bs : List Int} (h : ∀ x ∈ bs, isByte x) : ∀ xs ∈ [bs], ∀ x ∈ xs, isByte x := fun xs hx => by simp at hx; subst hx; exact h

/-- Tags that are given outright. -/
theorem tagZero (w : World) : (Instr.build T.api_Tag #[]).run Try.prog w = .ok (.agg (tagA (List.replicate 32 0))) w := by kernel_rfl
theorem tagOne (w : World) : (Instr.build T.api_Tag #[(0, .int .u8 1)]).run Try.prog w = .ok (.agg (tagA (1 :: List.replicate 31 0))) w := by kernel_rfl

theorem bitIs (r : Nat) (h : r < 8) : isByte (IntKind.u8.wrap (1 * 2 ^ min (Int.toNat (r : Int)) (IntKind.bits .u8))) ∧ ¬ IntKind.u8.wrap (1 * 2 ^ min (Int.toNat (r : Int)) (IntKind.bits .u8)) = 0 := by
  refine ⟨wrapIsByte _, ?_⟩
  rcases r with _ | _ | _ | _ | _ | _ | _ | _ | r <;> first | omega | decide

abbrev KN : List Nat := [1, 2, 3, 4]

/-- A tag of which one bit is turned is refused. -/
theorem endsBit {g q : GH} {t28 u32 : Nat} {s : Sl} {bs mac z : List Int} (m : Mv KN g.base q) (ho : OwnC T.uint8 1 q 1 s (bs.map byV)) (hbl : bs.length = 131) (hby : ∀ x ∈ bs, isByte x) (bt : BlkC q 2 t28 (tagA mac) T.api_Tag) (bu : BlkC q 3 u32 (tagA z) T.api_Tag)
    (ml : mac.length = 32) (mb : ∀ x ∈ mac, isByte x) (zl : z.length = 32) (zb : ∀ x ∈ z, isByte x) (hne : ¬ mac = z) (hmac : macB (bs.take 9) [97] = mac) {R : Value → Heap → Prop} {J : Heap → Prop}
    (hJ : ∀ q' : GH, Mv KN g.base q' → OwnC T.uint8 1 q' 1 s (bs.map byV) → BlkC q' 2 t28 (tagA mac) T.api_Tag → J q'.h) :
  sliceK s none (some 9) none (sizeOfT Try.prog T.uint8) (fun (v_42 : Sl) =>
  loadAggK (sizeOfT Try.prog T.api_Tag) q.h (some ⟨u32, 0, none⟩) (fun (v_43 : Array Value) =>
  newSlK q.h 1 #[(.int .u8 97)] T.uint8 (fun (v_44 : Sl) (h : Heap) =>
  opK Try.prog .slice (convert T.sl_uint8 T.sl_uint8 (.slice v_44.a v_44.n v_44.c)) (fun (v_45 : Sl) (h : Heap) =>
  newSlK h 1 #[(.slice v_45.a v_45.n v_45.c)] T.sl_uint8 (fun (v_46 : Sl) (h : Heap) =>
  callK Try.prog (.int .i64) F.mac_Check #[(.slice v_42.a v_42.n v_42.c), (.agg v_43), (.slice v_46.a v_46.n v_46.c)] (fun (v_47 : Int) (h : Heap) =>
  if (v_47 != 7) = true then
  R (.bool false) h
  else
  J h) h)) h))) := by
  have hn := ho.len
  have hcap := ho.cap
  simp only [List.length_map] at hn
  refine slice_to (n := 9) ho.plain rfl (by omega) ?_
  refine loadAgg_whole bu (tagA_size zl) ?_
  refine newSl_C q 4 rfl fun s2 q2 m2 o2 n2 c2 => ?_
  replace m := m.step m2 (by simp)
  replace ho := ho.mv m2 (by simp)
  replace bt := bt.mv m2 (by simp)
  refine conv_C (P := Try.prog) (t := T.sl_uint8) (e := T.uint8) (by kernel_rfl) (by kernel_rfl) o2 (by simp) fun q3 m3 k3 => ?_
  replace m := m.step m3 (by simp)
  replace ho := ho.mv m3 (by simp)
  replace bt := bt.mv m3 (by simp)
  have r2 := k3 _ _ _ _ o2.rd
  refine newSl_C q3 4 rfl fun s4 q4 m4 o4 n4 c4 => ?_
  replace m := m.step m4 (by simp)
  replace ho := ho.mv m4 (by simp)
  replace bt := bt.mv m4 (by simp)
  replace r2 := r2.mv m4 (by simp)
  have r1 := ho.rd.take (n := 9) (k := s.c) (by simp; omega)
  rw [← List.map_take] at r1
  refine macCheck_spec q4 ⟨s.a, 9, s.c⟩ s4 (bs.take 9) z [[97]] zl zb r1 (by show 9 ≤ s.c; omega) (by simp; omega) (fun x hx => hby x (List.mem_of_mem_take hx)) (RowsC.one o4.rd r2 (by omega)) (by simp [isByte]) (by decide) (by decide) fun q5 m5 => ⟨_, rfl, ?_⟩
  rw [show [[(97 : Int)]].flatten = [97] from rfl, hmac, if_neg hne]
  dsimp only
  rw [if_neg (by decide)]
  exact hJ q5 (m.step m5 (by simp)) (ho.mv m5 (by simp)) (bt.mv m5 (by simp))

set_option maxRecDepth 20000 in
set_option maxHeartbeats 1000000 in
theorem MacEnds_spec (g : GH) {R : Value → Heap → Prop} (H : ∀ g' : GH, Mv [] g g' → R (.bool true) g'.h) : HC Try.prog F.law03_MacEnds #[] R g.h := by
  refine law03_MacEnds.calls ?_
  unfold law03_MacEnds.body
  refine loopW_rule (fun st h' => ∃ (i : Nat) (s : Sl) (bs : List Int) (q : GH), i ≤ 131 ∧ st = (s, (i : Int)) ∧ h' = q.h ∧ Mv KN g.base q ∧ OwnC T.uint8 1 q 1 s (bs.map byV) ∧ bs.length = i ∧ ∀ x ∈ bs, isByte x) (fun st => 131 - st.2.toNat)
    ⟨0, ⟨none, 0, 0⟩, [], g.base, by omega, rfl, rfl, Mv.refl _ _, OwnC.nil _ _ _ _, rfl, by simp⟩ ?_
  rintro X _ _ ⟨i, s, bs, q, hi, rfl, rfl, m, ho, hl, hby⟩ hX
  have hn := ho.len
  have hcap := ho.cap
  simp only [List.length_map] at hn
  dsimp only
  have hz32 : (List.replicate 32 (0 : Int)).length = 32 := List.length_replicate
  by_cases hlt : i < 131
  · rw [if_pos (by simp; omega)]
    refine joinW_intro (fun _ h' => ∃ q : GH, h' = q.h ∧ Mv KN g.base q ∧ OwnC T.uint8 1 q 1 s (bs.map byV)) ?_ ?_
    · intro J hJ
      replace hJ : ∀ q' : GH, Mv KN g.base q' → OwnC T.uint8 1 q' 1 s (bs.map byV) → J () q'.h := fun q' a b => hJ () _ ⟨q', rfl, a, b⟩
      by_cases h71 : i < 71
      · rw [if_pos (by simp; omega)]
        refine ⟨_, tagZero, ?_⟩
        refine MacTells_spec q (c := 1) (d := 0) s ⟨none, 0, 0⟩ bs [] _ hz32 (zeroIs 32) (rowSl ho.rd hcap (by omega) hby) (SlC.nil _ _ _) fun q2 m2 => ⟨_, rfl, ?_⟩
        replace m := m.step m2 (by simp)
        replace ho := ho.mv m2 (by simp)
        dsimp only
        rw [if_neg (by decide)]
        refine make_C (e := T.uint8) (by_ := 1) (z := .int .u8 0) (by kernel_rfl) (by kernel_rfl) rfl (by omega) q2 4 (Nat.le_refl _) (by omega) fun s4 q4 m4 o4 n4 c4 _ => ?_
        rw [zeroBy] at o4
        replace m := m.step m4 (by simp)
        replace ho := ho.mv m4 (by simp)
        refine newSl_C q4 1 rfl fun s5 q5 m5 o5 n5 c5 => ?_
        replace m := m.step m5 (by simp)
        replace ho := ho.mv m5 (by simp)
        replace o4 := o4.mv m5 (by simp)
        refine ⟨_, tagOne, ?_⟩
        refine MacTells_spec q5 (c := 4) (d := 1) s4 s5 (List.replicate i 0) [bs] _ (by simp) (by simp [isByte]) (rowSl o4.rd o4.cap (by simp; omega) (zeroIs _)) (SlC.ofSls (sls := [s]) o5.rd o5.cap (by simp) rfl (all2_cons (rowSl ho.rd hcap (by omega) hby) all2_nil)) fun q6 m6 => ⟨_, rfl, ?_⟩
        replace m := m.step m6 (by simp)
        replace ho := ho.mv m6 (by simp)
        dsimp only
        rw [if_neg (by decide), if_neg (by simp; omega)]
        exact hJ q6 m ho
      · rw [if_neg (by simp; omega)]
        by_cases h130 : i = 130
        · rw [if_pos (by simp; omega)]
          refine newSl_C q 4 rfl fun s1 q1 m1 o1 n1 c1 => ?_
          replace m := m.step m1 (by simp)
          replace ho := ho.mv m1 (by simp)
          refine newSl_C q1 4 rfl fun s2 q2 m2 o2 n2 c2 => ?_
          replace m := m.step m2 (by simp)
          replace ho := ho.mv m2 (by simp)
          replace o1 := o1.mv m2 (by simp)
          refine newSl_C q2 4 rfl fun s3 q3 m3 o3 n3 c3 => ?_
          replace m := m.step m3 (by simp)
          replace ho := ho.mv m3 (by simp)
          replace o1 := o1.mv m3 (by simp)
          replace o2 := o2.mv m3 (by simp)
          refine ⟨_, tagZero, ?_⟩
          refine MacTells_spec q3 (c := 1) (d := 4) s s3 bs [[1], [], [2]] _ hz32 (zeroIs 32) (rowSl ho.rd hcap (by omega) hby) (SlC.ofSls (sls := [_, ⟨none, 0, 0⟩, _]) o3.rd o3.cap (by simp) rfl (all2_cons (rowSl o1.rd o1.cap (by simp) (by simp [isByte])) (all2_cons (SlC.nil _ _ _) (all2_cons (rowSl o2.rd o2.cap (by simp) (by simp [isByte])) all2_nil)))) fun q4 m4 => ⟨_, rfl, ?_⟩
          replace m := m.step m4 (by simp)
          replace ho := ho.mv m4 (by simp)
          dsimp only
          rw [if_neg (by decide)]
          exact hJ q4 m ho
        · rw [if_neg (by simp; omega)]
          exact hJ q m ho
    · rintro _ _ ⟨q, rfl, m, ho⟩
      refine newSl_C q 4 rfl fun s1 q1 m1 o1 n1 c1 => ?_
      replace m := m.step m1 (by simp)
      replace ho := ho.mv m1 (by simp)
      refine append_C (e := T.uint8) (e2 := T.uint8) (sz := 1) (by_ := 1) (z := .int .u8 0) (by kernel_rfl) (by kernel_rfl) (by kernel_rfl) rfl (by omega) ho o1.rd.rd (by simp [Value.oneCell']) (by omega) fun s2 q2 m2 o2 hn2 _ => ?_
      rw [wrapSucc (by omega)]
      refine hX _ _ ⟨i + 1, s2, bs ++ [_], q2, by omega, rfl, rfl, m.step m2 (by simp), by simpa using o2, by simp [hl], ?_⟩ (by simp; omega)
      intro x hx
      rcases List.mem_append.1 hx with hx | hx
      · exact hby x hx
      · simp at hx; subst hx; exact wrapIsByte _
  · rw [if_neg (by simp; omega)]
    clear hX
    have hbl : bs.length = 131 := by omega
    clear hl hi hlt
    refine slice_to (n := 9) ho.plain rfl (by omega) ?_
    refine newSl_C q 4 rfl fun s2 q2 m2 o2 n2 c2 => ?_
    replace m := m.step m2 (by simp)
    replace ho := ho.mv m2 (by simp)
    refine conv_C (P := Try.prog) (t := T.sl_uint8) (e := T.uint8) (by kernel_rfl) (by kernel_rfl) o2 (by simp) fun q3 m3 k3 => ?_
    replace m := m.step m3 (by simp)
    replace ho := ho.mv m3 (by simp)
    have r2 := k3 _ _ _ _ o2.rd
    refine newSl_C q3 4 rfl fun s4 q4 m4 o4 n4 c4 => ?_
    replace m := m.step m4 (by simp)
    replace ho := ho.mv m4 (by simp)
    replace r2 := r2.mv m4 (by simp)
    have r1 := ho.rd.take (n := 9) (k := s.c) (by simp; omega)
    rw [← List.map_take] at r1
    refine macOf_spec q4 ⟨s.a, 9, s.c⟩ s4 (bs.take 9) [[97]] r1 (by show 9 ≤ s.c; omega) (by simp; omega) (fun x hx => hby x (List.mem_of_mem_take hx)) (RowsC.one o4.rd r2 (by omega)) (by simp [isByte]) (by decide) (by decide) fun q5 m5 => ⟨_, rfl, ?_⟩
    rw [show [[(97 : Int)]].flatten = [97] from rfl]
    generalize hmac : macB (bs.take 9) [97] = mac
    have ml : mac.length = 32 := by rw [← hmac]; exact macB_length _ _
    have mb : ∀ x ∈ mac, isByte x := by rw [← hmac]; exact macB_byte _ _
    have tM := tagA_size ml
    replace m := m.step m5 (by simp)
    replace ho := ho.mv m5 (by simp)
    try dsimp only
    rw [zTag]
    refine new_C q5 2 fun t28 q6 m6 bt => ?_
    replace m := m.step m6 (by simp)
    replace ho := ho.mv m6 (by simp)
    refine storeAgg_C bt tM.symm (by rw [szTag]; simp) (fun v hv => oneBy _ v hv) fun q7 m7 bt => ?_
    rw [overA_all (by simp [ml])] at bt
    replace m := m.step m7 (by simp)
    replace ho := ho.mv m7 (by simp)
    refine loopW_rule (fun st h' => ∃ (i : Nat) (q : GH), i ≤ 256 ∧ st = (i : Int) ∧ h' = q.h ∧ Mv KN g.base q ∧ OwnC T.uint8 1 q 1 s (bs.map byV) ∧ BlkC q 2 t28 (tagA mac) T.api_Tag) (fun st => 256 - st.toNat) ⟨0, q7, by omega, rfl, rfl, m, ho, bt⟩ ?_
    clear m ho bt r1 r2
    rintro Y _ _ ⟨i, q, hi, rfl, rfl, m, ho, bt⟩ hY
    by_cases hlt : i < 256
    · rw [if_pos (by simp; omega)]
      refine loadAgg_whole bt tM ?_
      refine new_C q 3 fun u32 q1 m1 bu => ?_
      replace m := m.step m1 (by simp)
      replace ho := ho.mv m1 (by simp)
      replace bt := bt.mv m1 (by simp)
      refine storeAgg_C bu tM.symm (by rw [szTag]; simp) (fun v hv => oneBy _ v hv) fun q2 m2 bu => ?_
      rw [overA_all (by simp [ml])] at bu
      replace m := m.step m2 (by simp)
      replace ho := ho.mv m2 (by simp)
      replace bt := bt.mv m2 (by simp)
      have e1 : IntKind.i64.wrap (Int.tdiv (i : Int) 8) = ((i / 8 : Nat) : Int) := by
        rw [Int.tdiv_eq_ediv_of_nonneg (by omega), wrapI64 (by omega) (by omega)]; omega
      have e2 : Int.tmod (i : Int) 8 = ((i % 8 : Nat) : Int) := by rw [Int.tmod_eq_emod_of_nonneg (by omega)]; omega
      rw [e1, e2]
      have hk8 : i / 8 < 32 := by omega
      have hkm : i / 8 < mac.length := by omega
      obtain ⟨hb1, hb2⟩ := bitIs (i % 8) (by omega)
      refine ⟨by decide, by decide, ?_⟩
      refine idxArr_N (by kernel_rfl) hk8 ?_
      refine ⟨by decide, by omega, ?_⟩
      rw [Nat.zero_add, loadK_C bu]
      refine ⟨mac[i / 8], by simp [List.getElem?_eq_getElem hkm, Kd.inj], ?_⟩
      refine idxArr_N (by kernel_rfl) hk8 ?_
      rw [Nat.zero_add]
      refine store_C bu (by simp; omega) rfl fun q3 m3 bu => ?_
      generalize IntKind.u8.wrap (1 * 2 ^ min (Int.toNat ((i % 8 : Nat) : Int)) (IntKind.bits .u8)) = bit at hb1 hb2 bu ⊢
      have bu' : BlkC q3 3 u32 (tagA (mac.set (i / 8) (turnB bit mac[i / 8]))) T.api_Tag := by
        have : (tagA mac).setIfInBounds (i / 8) (byV (turnB bit mac[i / 8])) = tagA (mac.set (i / 8) (turnB bit mac[i / 8])) := by
          rw [List.setIfInBounds_toArray]
          show _ = (List.map byV (mac.set (i / 8) (turnB bit mac[i / 8]))).toArray
          rw [List.map_set]
        rw [← this]; exact bu
      have hz := turnSet hkm mb hb1
      have zb := turnSet_byte (t := bit) hkm mb
      have zl : (mac.set (i / 8) (turnB bit mac[i / 8])).length = 32 := by simp [ml]
      generalize mac.set (i / 8) (turnB bit mac[i / 8]) = z at bu' hz zb zl
      have hne : ¬ mac = z := fun e => hb2 (hz.1 e)
      have hne' : ¬ z = mac := fun e => hne e.symm
      have tZ := tagA_size zl
      clear bu
      replace m := m.step m3 (by simp)
      replace ho := ho.mv m3 (by simp)
      replace bt := bt.mv m3 (by simp)
      refine loadAgg_whole bt tM (loadAgg_whole bu' tZ ?_)
      refine Same_spec q3 mac z ml mb zl zb fun q4 m4 => ⟨_, rfl, ?_⟩
      replace m := m.step m4 (by simp)
      replace ho := ho.mv m4 (by simp)
      replace bt := bt.mv m4 (by simp)
      replace bu' := bu'.mv m4 (by simp)
      rw [decide_eq_false hne]
      dsimp only
      rw [wrapSucc (by omega)]
      have go : ∀ (q' : GH), Mv KN g.base q' → OwnC T.uint8 1 q' 1 s (bs.map byV) → BlkC q' 2 t28 (tagA mac) T.api_Tag → Y ((i + 1 : Nat) : Int) q'.h := fun q' a b c => hY _ _ ⟨i + 1, q', by omega, rfl, rfl, a, b, c⟩ (by simp; omega)
      simp only [Bool.false_eq_true, if_false]
      refine ⟨?_, ?_⟩
      · refine loadAgg_whole bu' tZ (loadAgg_whole bt tM ?_)
        refine Same_spec q4 z mac zl zb ml mb fun q5 m5 => ⟨_, rfl, ?_⟩
        rw [decide_eq_false hne']
        simp only [Bool.false_eq_true, if_false]
        exact endsBit (m.step m5 (by simp)) (ho.mv m5 (by simp)) hbl hby (bt.mv m5 (by simp)) (bu'.mv m5 (by simp)) ml mb zl zb hne hmac go
      · refine loadAgg_whole bt tM (loadAgg_whole bu' tZ ?_)
        refine Same_spec q4 z mac zl zb ml mb fun q5 m5 => ⟨_, rfl, ?_⟩
        rw [decide_eq_false hne']
        simp only [Bool.false_eq_true, if_false]
        exact endsBit (m.step m5 (by simp)) (ho.mv m5 (by simp)) hbl hby (bt.mv m5 (by simp)) (bu'.mv m5 (by simp)) ml mb zl zb hne hmac go
    · rw [if_neg (by simp; omega)]
      refine loadAgg_whole bt tM (loadAgg_whole bt tM ?_)
      refine Same_spec q mac mac ml mb ml mb fun q1 m1 => ⟨_, rfl, ?_⟩
      replace m := m.step m1 (by simp)
      replace ho := ho.mv m1 (by simp)
      replace bt := bt.mv m1 (by simp)
      rw [decide_eq_true rfl]
      dsimp only
      rw [if_pos rfl]
      refine slice_to (n := 9) ho.plain rfl (by omega) ?_
      refine loadAgg_whole bt tM ?_
      refine newSl_C q1 4 rfl fun s2 q2 m2 o2 n2 c2 => ?_
      replace m := m.step m2 (by simp)
      replace ho := ho.mv m2 (by simp)
      refine conv_C (P := Try.prog) (t := T.sl_uint8) (e := T.uint8) (by kernel_rfl) (by kernel_rfl) o2 (by simp) fun q3 m3 k3 => ?_
      replace m := m.step m3 (by simp)
      replace ho := ho.mv m3 (by simp)
      have r2 := k3 _ _ _ _ o2.rd
      refine newSl_C q3 4 rfl fun s4 q4 m4 o4 n4 c4 => ?_
      replace m := m.step m4 (by simp)
      replace ho := ho.mv m4 (by simp)
      replace r2 := r2.mv m4 (by simp)
      have r1 := ho.rd.take (n := 9) (k := s.c) (by simp; omega)
      rw [← List.map_take] at r1
      refine macCheck_spec q4 ⟨s.a, 9, s.c⟩ s4 (bs.take 9) mac [[97]] ml mb r1 (by show 9 ≤ s.c; omega) (by simp; omega) (fun x hx => hby x (List.mem_of_mem_take hx)) (RowsC.one o4.rd r2 (by omega)) (by simp [isByte]) (by decide) (by decide) fun q5 m5 => ⟨_, rfl, ?_⟩
      rw [show [[(97 : Int)]].flatten = [97] from rfl, hmac, if_pos rfl]
      dsimp only
      rw [if_pos (by decide)]
      replace m := m.step m5 (by simp)
      refine awake03_spec q5 fun q6 m6 => ⟨_, rfl, ?_⟩
      replace m := m.step m6 (by simp)
      exact H (g.via q6 fun _ => 0) (m.via (by simp) _)

theorem MacEnds_walk (h : Heap) : HC Try.prog F.law03_MacEnds #[] (fun v h' => v = .bool true ∧ Ext h h') h :=
  MacEnds_spec ⟨h, fun _ => 0⟩ fun g' m => ⟨rfl, m.ext (by simp)⟩

end Go.Proofs.Ytcbpajedibamoaa
