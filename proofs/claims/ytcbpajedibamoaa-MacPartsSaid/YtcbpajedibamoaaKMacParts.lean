/-
  However a text is cut, and whether a key is given outright, the keyed digest is the same.
-/
import Derived.Test.YtcbpajedibamoaaKMacTells
set_option linter.unusedSimpArgs false
set_option linter.unusedVariables false
namespace Go.Proofs.Ytcbpajedibamoaa
open Go Go.Ev

theorem keyB_sha {ks : List Int} (h : 64 < ks.length) : keyB (shaB ks) = keyB ks := by
  have h1 : shortB ks = shaB ks := by simp [shortB, h]
  have h2 : shortB (shaB ks) = shaB ks := by simp [shortB, shaB_length]
  unfold keyB
  rw [h1, h2]
theorem keyB_pad {ks : List Int} {j : Nat} (h : ks.length + j ≤ 64) : keyB (ks ++ List.replicate j 0) = keyB ks := by
  have h1 : shortB ks = ks := by simp [shortB]; omega
  have h2 : shortB (ks ++ List.replicate j 0) = ks ++ List.replicate j 0 := by simp [shortB]; omega
  unfold keyB
  rw [h1, h2, List.append_assoc, List.length_append, List.length_replicate, List.replicate_append_replicate, show j + (64 - (ks.length + j)) = 64 - ks.length by omega]
theorem macB_key {ks ls : List Int} (h : keyB ks = keyB ls) (bs : List Int) : macB ks bs = macB ls bs := by unfold macB; rw [h]

theorem rowOne {bs : List Int} (h : ∀ x ∈ bs, isByte x) : ∀ xs ∈ [bs], ∀ x ∈ xs, isByte x := fun xs hx => by simp at hx; subst hx; exact h

abbrev KQ : List Nat := [1, 2]

set_option maxHeartbeats 1000000 in
theorem MacParts_spec (g : GH) {c d : Nat} (v w : Sl) (ks bs : List Int) (at2 nou : Int) (hat : -9223372036854775808 ≤ at2 ∧ at2 ≤ 9223372036854775807) (hno : -9223372036854775808 ≤ nou ∧ nou ≤ 9223372036854775807)
    (hs : SlC g c (.int .u8) v ks) (hw : SlC g d (.int .u8) w bs) {R : Value → Heap → Prop} (H : ∀ g' : GH, Mv [] g g' → R (.bool true) g'.h) : HC Try.prog F.law03_MacParts #[.slice v.a v.n v.c, .slice w.a w.n w.c, .int .i64 at2, .int .i64 nou] R g.h := by
  refine law03_MacParts.calls (key0 := v) (b1 := w) ?_
  unfold law03_MacParts.body
  obtain ⟨hr, hby0⟩ := hs.ints
  obtain ⟨hrw, hbw0⟩ := hw.ints
  have hby := byteInts hby0
  have hbw := byteInts hbw0
  have hn := hs.len
  have hnw := hw.len
  have hcap := hs.cap
  have hcapw := hw.cap
  have hsm := hs.small
  have hsmw := hw.small
  have m : Mv KQ g.base g.base := Mv.refl _ _
  refine awake03_spec g.base fun q1 m1 => ⟨_, rfl, ?_⟩
  replace m := m.step m1 (by simp)
  dsimp only
  rw [if_neg (by decide), wrapI64 (n := (v.n : Int) + (w.n : Int)) (by omega) (by omega)]
  rcases Nat.lt_or_ge 700 (v.n + w.n) with h7 | h7
  · rw [if_pos (by simp; omega)]
    exact H (g.via q1 fun _ => 0) (m.via (by simp) _)
  rw [if_neg (by simp; omega)]
  have hf : [bs].flatten = bs := by simp
  have t1 : total [bs] = bs.length := by unfold total; rw [hf]
  have hk : ∀ q : GH, Mv KQ g.base q → RdC 1 q 0 v (ks.map byV) := fun q m => hr.arg m (by simp)
  have hb : ∀ q : GH, Mv KQ g.base q → RdC 1 q 0 w (bs.map byV) := fun q m => hrw.arg m (by simp)
  refine newSl_C q1 0 rfl fun s2 q2 m2 o2 n2 c2 => ?_
  replace m := m.step m2 (by simp)
  refine macOf_spec q2 v s2 ks [bs] (hk _ m) hcap (by omega) hby (RowsC.one o2.rd (hb _ m) hcapw) (rowOne hbw) (by omega) (by simp) fun q3 m3 => ⟨_, rfl, ?_⟩
  rw [hf]
  replace m := m.step m3 (by simp)
  generalize hmac : macB ks bs = mac
  have ml : mac.length = 32 := by rw [← hmac]; exact macB_length _ _
  have mb : ∀ x ∈ mac, isByte x := by rw [← hmac]; exact macB_byte _ _
  have tM := tagA_size ml
  try dsimp only
  rw [zTag]
  refine new_C q3 1 fun t4 q4 m4 bt => ?_
  replace m := m.step m4 (by simp)
  refine storeAgg_C bt tM.symm (by rw [szTag]; simp) (fun v hv => oneBy _ v hv) fun q5 m5 bt => ?_
  rw [overA_all (by simp [ml])] at bt
  replace m := m.step m5 (by simp)
  have e1 : IntKind.i64.wrap ((w.n : Int) + 1) = ((w.n + 1 : Nat) : Int) := wrapSucc (by omega)
  rw [e1]
  refine Pick_spec at2 _ hat (by omega) ⟨_, rfl, ?_⟩
  obtain ⟨k, hkn, hk2⟩ : ∃ k : Nat, k ≤ w.n ∧ at2 % ((w.n + 1 : Nat) : Int) = (k : Int) := by
    have h1 := Int.emod_nonneg at2 (show ((w.n + 1 : Nat) : Int) ≠ 0 by omega)
    have h2 := Int.emod_lt_of_pos at2 (show (0 : Int) < ((w.n + 1 : Nat) : Int) by omega)
    exact ⟨(at2 % ((w.n + 1 : Nat) : Int)).toNat, by omega, by omega⟩
  rw [hk2]
  try dsimp only
  have hlo : ∀ q : GH, Mv KQ g.base q → RdC 1 q 0 ⟨if w.c = 0 then w.a else w.a.map (·.add (0 * sizeOfT Try.prog T.uint8)), k - 0, w.c - 0⟩ ((bs.take k).map byV) := by
    intro q m
    have := (hb q m).mid (l := 0) (h := k) (sz := sizeOfT Try.prog T.uint8) (by kernel_rfl) (by omega) (by simp; omega) hcapw
    rw [← List.map_drop, ← List.map_take, List.drop_zero] at this
    exact this
  have hhi : ∀ q : GH, Mv KQ g.base q → RdC 1 q 0 ⟨if w.c = k then w.a else w.a.map (·.add (k * sizeOfT Try.prog T.uint8)), w.n - k, w.c - k⟩ ((bs.drop k).map byV) := by
    intro q m
    have := (hb q m).drop (sz := sizeOfT Try.prog T.uint8) (n := k) (by kernel_rfl) (by simp; omega) hcapw
    rw [← List.map_drop] at this
    exact this
  have tkb : ∀ x ∈ bs.take k, isByte x := fun x hx => hbw x (List.mem_of_mem_take hx)
  have dkb : ∀ x ∈ bs.drop k, isByte x := fun x hx => hbw x (List.mem_of_mem_drop hx)
  have hf3 : [bs.take k, [], bs.drop k].flatten = bs := by simp
  have hf2 : [bs.take k, bs.drop k].flatten = bs := by simp
  refine slice_upto (n := k) rfl (by omega) ?_
  refine slice_from (n := k) rfl (by omega) hcapw ?_
  refine loadAgg_whole bt tM ?_
  refine newSl_C q5 0 rfl fun s6 q6 m6 o6 n6 c6 => ?_
  replace m := m.step m6 (by simp)
  replace bt := bt.mv m6 (by simp)
  refine macOf_spec q6 (d := 0) v s6 ks [bs.take k, [], bs.drop k] (hk _ m) hcap (by omega) hby (.of (sls := [_, ⟨none, 0, 0⟩, _]) o6.rd rfl (all2_cons ⟨hlo _ m, by show k - 0 ≤ w.c - 0; omega⟩ (all2_cons ⟨RdC.nil _ _ _ _ _, by simp⟩ (all2_cons ⟨hhi _ m, by show w.n - k ≤ w.c - k; omega⟩ all2_nil)))) (fun xs hx => by
    simp at hx
    rcases hx with rfl | rfl | rfl
    · exact tkb
    · simp
    · exact dkb) (by unfold total; rw [hf3]; omega) (by simp) fun q7 m7 => ⟨_, rfl, stillAgg_whole (bt.mv m7 (by simp)) tM, ?_⟩
  rw [hf3, hmac]
  replace m := m.step m7 (by simp)
  replace bt := bt.mv m7 (by simp)
  refine tag_neq ml mb ml mb ?_
  rw [if_neg (by simp)]
  refine slice_upto (n := k) rfl (by omega) ?_
  refine slice_from (n := k) rfl (by omega) hcapw ?_
  refine loadAgg_whole bt tM ?_
  refine newSl_C q7 0 rfl fun s8 q8 m8 o8 n8 c8 => ?_
  replace m := m.step m8 (by simp)
  replace bt := bt.mv m8 (by simp)
  refine macCheck_spec q8 (d := 0) v s8 ks mac [bs.take k, bs.drop k] ml mb (hk _ m) hcap (by omega) hby (.of (sls := [_, _]) o8.rd rfl (all2_cons ⟨hlo _ m, by show k - 0 ≤ w.c - 0; omega⟩ (all2_cons ⟨hhi _ m, by show w.n - k ≤ w.c - k; omega⟩ all2_nil))) (fun xs hx => by
    simp at hx
    rcases hx with rfl | rfl
    · exact tkb
    · exact dkb) (by unfold total; rw [hf2]; omega) (by simp) fun q9 m9 => ⟨_, rfl, ?_⟩
  rw [hf2, hmac, if_pos rfl]
  replace m := m.step m9 (by simp)
  replace bt := bt.mv m9 (by simp)
  dsimp only
  rw [if_neg (by decide)]
  rcases Nat.lt_or_ge 64 v.n with h64 | h64
  · rw [if_pos (by simp; omega)]
    have hfk : [ks].flatten = ks := by simp
    refine newSl_C q9 0 rfl fun s10 q10 m10 o10 n10 c10 => ?_
    replace m := m.step m10 (by simp)
    replace bt := bt.mv m10 (by simp)
    refine digestOf_spec q10 s10 [ks] (RowsC.one o10.rd (hk _ m) hcap) (rowOne hby) (by unfold total; rw [hfk]; omega) (by simp) fun q11 m11 => ⟨_, rfl, ?_⟩
    rw [hfk]
    replace m := m.step m11 (by simp)
    replace bt := bt.mv m11 (by simp)
    try dsimp only
    try rw [zTag]
    refine new_C q11 2 fun o19 q12 m12 bo => ?_
    replace m := m.step m12 (by simp)
    replace bt := bt.mv m12 (by simp)
    have tS := tagA_size (shaB_length ks)
    refine storeAgg_C bo tS.symm (by rw [szTag]; simp) (fun v hv => oneBy _ v hv) fun q13 m13 bo => ?_
    rw [overA_all (by simp [shaB_length])] at bo
    replace m := m.step m13 (by simp)
    replace bt := bt.mv m13 (by simp)
    refine sliceArr_C 0 32 rfl rfl (by decide) ?_
    refine loadAgg_whole bt tM ?_
    refine newSl_C q13 0 rfl fun s14 q14 m14 o14 n14 c14 => ?_
    replace m := m.step m14 (by simp)
    replace bt := bt.mv m14 (by simp)
    replace bo := bo.mv m14 (by simp)
    refine macOf_spec q14 (e := 2) ⟨some ⟨o19, 0 + 0 * _, none⟩, 32 - 0, 32 - 0⟩ s14 (shaB ks) [bs] (by rw [Nat.zero_mul]; exact blkRd bo (by rw [shaB_length])) (by simp) (by rw [shaB_length]; omega) (shaB_byte ks) (RowsC.one o14.rd (hb _ m) hcapw) (rowOne hbw) (by omega) (by simp) fun q15 m15 => ⟨_, rfl, stillAgg_whole (bt.mv m15 (by simp)) tM, ?_⟩
    rw [hf, macB_key (keyB_sha (by omega)) bs, hmac]
    replace m := m.step m15 (by simp)
    refine tag_eq ml mb ml mb ?_
    rw [decide_eq_true rfl]
    exact H (g.via q15 fun _ => 0) (m.via (by simp) _)
  · rw [if_neg (by simp; omega)]
    refine newSl_C q9 2 rfl fun s10 q10 m10 o10 n10 c10 => ?_
    replace m := m.step m10 (by simp)
    replace bt := bt.mv m10 (by simp)
    refine append_C (e := T.uint8) (e2 := T.uint8) (sz := 1) (by_ := 1) (z := .int .u8 0) (by kernel_rfl) (by kernel_rfl) (by kernel_rfl) rfl (by omega) o10 (hk _ m).rd (oneBy _) (by omega) fun s11 q11 m11 o11 n11 _ => ?_
    replace m := m.step m11 (by simp)
    replace bt := bt.mv m11 (by simp)
    have e2 : IntKind.i64.wrap (65 - (v.n : Int)) = ((65 - v.n : Nat) : Int) := by rw [wrapI64 (by omega) (by omega)]; omega
    rw [e2]
    refine Pick_spec nou _ hno (by omega) ⟨_, rfl, ?_⟩
    obtain ⟨j, hjn, hj2⟩ : ∃ j : Nat, v.n + j ≤ 64 ∧ nou % ((65 - v.n : Nat) : Int) = (j : Int) := by
      have h1 := Int.emod_nonneg nou (show ((65 - v.n : Nat) : Int) ≠ 0 by omega)
      have h2 := Int.emod_lt_of_pos nou (show (0 : Int) < ((65 - v.n : Nat) : Int) by omega)
      exact ⟨(nou % ((65 - v.n : Nat) : Int)).toNat, by omega, by omega⟩
    rw [hj2]
    try dsimp only
    refine loopW_rule (fun st h' => ∃ (i : Nat) (s : Sl) (q : GH), i ≤ j ∧ st = (s, (j : Int) - (i : Int)) ∧ h' = q.h ∧ Mv KQ g.base q ∧ BlkC q 1 t4 (tagA mac) T.api_Tag ∧ OwnC T.uint8 1 q 2 s ((ks ++ List.replicate i 0).map byV)) (fun st => st.2.toNat) ⟨0, s11, q11, by omega, by simp, rfl, m, bt, by simpa using o11⟩ ?_
    clear m bt o11 o10
    rintro X _ _ ⟨i, s, q, hi, rfl, rfl, m, bt, ho⟩ hX
    have hol := ho.len
    have hoc := ho.cap
    simp at hol
    dsimp only
    by_cases hlt : i < j
    · rw [if_pos (by simp; omega)]
      refine newSl_C q 0 rfl fun s1 q1 m1 o1 n1 c1 => ?_
      replace m := m.step m1 (by simp)
      replace bt := bt.mv m1 (by simp)
      replace ho := ho.mv m1 (by simp)
      refine append_C (e := T.uint8) (e2 := T.uint8) (sz := 1) (by_ := 1) (z := .int .u8 0) (by kernel_rfl) (by kernel_rfl) (by kernel_rfl) rfl (by omega) ho o1.rd.rd (by simp [Value.oneCell']) (by omega) fun s3 q3 m3 o3 hn3 _ => ?_
      rw [wrapI64 (by omega) (by omega)]
      refine hX _ _ ⟨i + 1, s3, q3, by omega, by simp; omega, rfl, m.step m3 (by simp), bt.mv m3 (by simp), o3.cast ?_⟩ (by simp; omega)
      rw [List.replicate_succ', ← List.append_assoc, List.map_append (l₁ := ks ++ _)]
      rfl
    · rw [if_neg (by simp; omega)]
      have hi' : i = j := by omega
      subst hi'
      refine loadAgg_whole bt tM ?_
      refine newSl_C q 0 rfl fun s14 q14 m14 o14 n14 c14 => ?_
      replace m := m.step m14 (by simp)
      replace bt := bt.mv m14 (by simp)
      replace ho := ho.mv m14 (by simp)
      refine macOf_spec q14 s s14 (ks ++ List.replicate i 0) [bs] ho.rd hoc (by simp; omega) (fun x hx => by
        rcases List.mem_append.1 hx with hx | hx
        · exact hby x hx
        · rw [(List.mem_replicate.1 hx).2]; unfold isByte; omega) (RowsC.one o14.rd (hb _ m) hcapw) (rowOne hbw) (by omega) (by simp) fun q15 m15 => ⟨_, rfl, stillAgg_whole (bt.mv m15 (by simp)) tM, ?_⟩
      rw [hf, macB_key (keyB_pad (by omega)) bs, hmac]
      replace m := m.step m15 (by simp)
      refine tag_eq ml mb ml mb ?_
      rw [decide_eq_true rfl]
      exact H (g.via q15 fun _ => 0) (m.via (by simp) _)

theorem MacParts_walk {h : Heap} (a : Option Addr) (la ca : Nat) (ks : List Int) (w : Lay h (.sl (.int .u8)) ks [.slice a la ca]) (b : Option Addr) (lb cb : Nat) (bs : List Int) (w' : Lay h (.sl (.int .u8)) bs [.slice b lb cb]) (n : Int) (hn : (Lit.int .i64 n).wf = true) (k : Int) (hk : (Lit.int .i64 k).wf = true) :
    HC Try.prog F.law03_MacParts #[.slice a la ca, .slice b lb cb, .int .i64 n, .int .i64 k] (fun v h' => v = .bool true ∧ Ext h h') h :=
  MacParts_spec ⟨h, fun _ => 0⟩ ⟨a, la, ca⟩ ⟨b, lb, cb⟩ ks bs n k (wf_i64 hn) (wf_i64 hk) (c := 0) (d := 0) (w.arg (Mv.refl [] _) (by simp)) (w'.arg (Mv.refl [] _) (by simp)) fun g' m => ⟨rfl, m.ext (by simp)⟩

end Go.Proofs.Ytcbpajedibamoaa
