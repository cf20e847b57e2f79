/-
  The ends: lengths about a block, the greatest length, and no hasher.
-/
import Derived.Test.YtkpcoknfojnlbaaKDigestParts
set_option linter.unusedSimpArgs false
set_option linter.unusedVariables false
namespace Go.Proofs.Ytkpcoknfojnlbaa
open Go Go.Ev

/-- A hasher that nobody made. -/
def NoHash (g : GH) (p : Option Addr) : Prop := p = none ∨ ∃ b c, p = some ⟨b, 0, none⟩ ∧ BlkC g c b (zerosOf Try.prog T.digest_Hasher) T.digest_Hasher
theorem noThere {g : GH} {p : Option Addr} (hd : NoHash g p) {R : Value → Heap → Prop} (H : R (.bool false) g.h) : HC Try.prog F.digest_Hasher_there #[.pointer p] R g.h := by
  refine digest_Hasher_there.calls ?_
  unfold digest_Hasher_there.body
  rcases hd with rfl | ⟨b, c, rfl, hb⟩
  · rw [if_neg (by simp)]; exact H
  · rw [if_pos (by simp)]
    rw [zHasher] at hb
    simp only [derefK_some, fldK_some, Nat.zero_add, loadK_C hb]
    exact ⟨false, rfl, H⟩
theorem noWrite {g : GH} {p : Option Addr} (hd : NoHash g p) (s : Sl) {R : Value → Heap → Prop} (H : R (.int .i64 1) g.h) : HC Try.prog F.digest_Hasher_Write #[.pointer p, .slice s.a s.n s.c] R g.h := by
  refine digest_Hasher_Write.calls (rows1 := s) ?_
  unfold digest_Hasher_Write.body
  refine noThere hd ⟨_, rfl, ?_⟩
  dsimp only
  rw [if_pos (by decide)]
  exact H
theorem noLen {g : GH} {p : Option Addr} (hd : NoHash g p) {R : Value → Heap → Prop} (H : R (.int .i64 0) g.h) : HC Try.prog F.digest_Hasher_Len #[.pointer p] R g.h := by
  refine digest_Hasher_Len.calls ?_
  unfold digest_Hasher_Len.body
  refine noThere hd ⟨_, rfl, ?_⟩
  dsimp only
  rw [if_pos (by decide)]
  exact H
abbrev noTagB : List Int := List.replicate 32 0
theorem noTag {g : GH} {p : Option Addr} (hd : NoHash g.base p) {R : Value → Heap → Prop} (H : ∀ g' : GH, Mv [] g g' → R (.agg (tagA noTagB)) g'.h) : HC Try.prog F.digest_Hasher_Tag #[.pointer p] R g.h := by
  refine digest_Hasher_Tag.calls ?_
  unfold digest_Hasher_Tag.body
  have m := Mv.refl [1] g.base
  rw [zTag]
  refine new_C g.base 1 fun t q1 m1 b1 => ?_
  replace m := m.step m1 (by simp)
  refine noThere (g := q1) ?_ ⟨_, rfl, ?_⟩
  · rcases hd with h | ⟨b, c, h, hb⟩
    · exact .inl h
    · exact .inr ⟨b, c, h, hb.mv m1 (by simp)⟩
  dsimp only
  rw [if_pos (by decide)]
  refine ⟨tagA noTagB, fun w => by kernel_rfl, ?_⟩
  refine result_C (n := 32) szTag dTag b1 (by simp) (by simp) (fun v hv => oneBy _ v hv) fun q2 m2 => ?_
  replace m := m.step m2 (by simp)
  exact H (g.via q2 fun _ => 0) (m.via (by simp) _)

theorem none_spec (g : GH) {R : Value → Heap → Prop} (H : ∀ g' : GH, Mv [] g g' → R (.bool true) g'.h) : HC Try.prog F.law02_none #[] R g.h := by
  refine law02_none.calls ?_
  unfold law02_none.body
  have m := Mv.refl [1] g.base
  refine ⟨zerosOf Try.prog T.digest_Hasher, fun w => by kernel_rfl, ?_⟩
  refine new_C g.base 1 fun t q1 m1 b1 => ?_
  replace m := m.step m1 (by simp)
  refine newSl_C q1 1 rfl fun s2 q2 m2 o2 n2 c2 => ?_
  replace m := m.step m2 (by simp)
  replace b1 := b1.mv m2 (by simp)
  refine loopW_rule (fun st h' => ∃ (i : Nat) (q : GH), i ≤ 2 ∧ st = (i : Int) ∧ h' = q.h ∧ Mv [1] g.base q ∧ BlkC q 1 t (zerosOf Try.prog T.digest_Hasher) T.digest_Hasher ∧ RdC 1 q 1 s2 [.pointer none, .pointer (some ⟨t, 0, none⟩)]) (fun st => 2 - st.toNat)
    ⟨0, q2, by omega, rfl, rfl, m, b1, o2.rd⟩ ?_
  clear m b1 o2
  rintro X _ _ ⟨i, q, hi, rfl, rfl, m, hb, ho⟩ hX
  by_cases hlt : i < 2
  · rw [if_pos (by simp; omega)]
    obtain ⟨x, hx, hno⟩ : ∃ x : Option Addr, [Value.pointer none, .pointer (some ⟨t, 0, none⟩)][i]? = some (Kd.inj .ptr x) ∧ (x = none ∨ x = some ⟨t, 0, none⟩) := by
      rcases i with _ | _ | i
      · exact ⟨none, rfl, .inl rfl⟩
      · exact ⟨some ⟨t, 0, none⟩, rfl, .inr rfl⟩
      · omega
    have hno : ∀ q : GH, BlkC q 1 t (zerosOf Try.prog T.digest_Hasher) T.digest_Hasher → NoHash q x := by
      intro q hb
      rcases hno with rfl | rfl
      · exact .inl rfl
      · exact .inr ⟨t, 1, rfl, hb⟩
    refine idxLoadN ho.rd (by kernel_rfl) (k := .ptr) x hx ?_
    refine noWrite (hno q hb) ⟨none, 0, 0⟩ ⟨_, rfl, ?_⟩
    dsimp only
    rw [if_neg (by decide)]
    refine idxLoadN ho.rd (by kernel_rfl) (k := .ptr) x hx ?_
    refine noTag (g := q) ?_ fun q3 m3 => ⟨_, rfl, ?_⟩
    · rcases hno q hb with h | ⟨b, c, h, hb⟩
      · exact .inl h
      · exact .inr ⟨b, 0, h, hb.base⟩
    replace m := m.step m3 (by simp)
    replace hb := hb.mv m3 (by simp)
    replace ho := ho.mv m3 (by simp)
    refine ⟨tagA noTagB, fun w => by kernel_rfl, ?_⟩
    refine tag_neq (by simp) (zeroIs 32) (by simp) (zeroIs 32) ?_
    rw [if_neg (by simp)]
    refine idxLoadN ho.rd (by kernel_rfl) (k := .ptr) x hx ?_
    refine noLen (hno q3 hb) ⟨_, rfl, ?_⟩
    dsimp only
    rw [if_neg (by decide), wrapSucc (by omega)]
    exact hX _ _ ⟨i + 1, q3, by omega, rfl, rfl, m, hb, ho⟩ (by simp; omega)
  · rw [if_neg (by simp; omega)]
    exact H (g.via q fun _ => 0) (m.via (by simp) _)

abbrev KE : List Nat := [1, 2, 3]
theorem bigN (n : Nat) : total [List.replicate n (0 : Int)] = n := by simp [total]

/-- The greatest length, and one byte more. -/
theorem endsTail {g q : GH} {p : Nat} {a e : Sl} (m : Mv KE g.base q) (hd : HashC q 1 2 p []) (oa : OwnC T.uint8 1 q 0 a (List.replicate 1048576 (.int .u8 0))) (oe : OwnC T.uint8 1 q 0 e [.int .u8 1]) {R : Value → Heap → Prop} {J : Unit → Heap → Prop}
    (hJ : ∀ q' : GH, Mv KE g.base q' → J () q'.h) :
  newSlK q.h 2 #[(.slice a.a a.n a.c), (.slice e.a e.n e.c)] T.sl_uint8 (fun (v_26 : Sl) (h : Heap) =>
  callK Try.prog (.int .i64) F.digest_Hasher_Write #[(.pointer (some ⟨p, 0, none⟩)), (.slice v_26.a v_26.n v_26.c)] (fun (v_27 : Int) (h : Heap) =>
  if (v_27 != 3) = true then
  R (.bool false) h
  else
  callK Try.prog (.int .i64) F.digest_Hasher_Len #[(.pointer (some ⟨p, 0, none⟩))] (fun (v_28 : Int) (h : Heap) =>
  if (v_28 != 0) = true then
  R (.bool false) h
  else
  callK Try.prog .agg F.digest_Hasher_Tag #[(.pointer (some ⟨p, 0, none⟩))] (fun (v_29 : Array Value) (h : Heap) =>
  callK Try.prog .agg F.ref02_Of #[(.slice none 0 0)] (fun (v_30 : Array Value) (h : Heap) =>
  eqK Try.prog (binSem .neq T.api_Tag (.tmp 61) (.tmp 62) (.agg v_29) (.agg v_30)) (fun (v_31 : Bool) =>
  if v_31 = true then
  R (.bool false) h
  else
  opK Try.prog .slice (Instr.makeSlice T.sl_uint8 (.int .i64 1048576) (.int .i64 1048576)) (fun (v_32 : Sl) (h : Heap) =>
  newSlK h 1 #[(.slice v_32.a v_32.n v_32.c)] T.sl_uint8 (fun (v_33 : Sl) (h : Heap) =>
  callK Try.prog (.int .i64) F.digest_Hasher_Write #[(.pointer (some ⟨p, 0, none⟩)), (.slice v_33.a v_33.n v_33.c)] (fun (v_34 : Int) (h : Heap) =>
  if (v_34 != 0) = true then
  R (.bool false) h
  else
  newSlK h 1 #[(.int .u8 1)] T.uint8 (fun (v_35 : Sl) (h : Heap) =>
  newSlK h 1 #[(.slice v_35.a v_35.n v_35.c)] T.sl_uint8 (fun (v_36 : Sl) (h : Heap) =>
  callK Try.prog (.int .i64) F.digest_Hasher_Write #[(.pointer (some ⟨p, 0, none⟩)), (.slice v_36.a v_36.n v_36.c)] (fun (v_37 : Int) (h : Heap) =>
  if (v_37 != 3) = true then
  R (.bool false) h
  else
  callK Try.prog (.int .i64) F.digest_Hasher_Write #[(.pointer (some ⟨p, 0, none⟩)), (.slice none 0 0)] (fun (v_38 : Int) (h : Heap) =>
  if (v_38 != 0) = true then
  R (.bool false) h
  else
  callK Try.prog (.int .i64) F.digest_Hasher_Len #[(.pointer (some ⟨p, 0, none⟩))] (fun (v_39 : Int) (h : Heap) =>
  if (v_39 != 1048576) = true then
  R (.bool false) h
  else
  ((callK Try.prog .agg F.digest_Hasher_Tag #[(.pointer (some ⟨p, 0, none⟩))] (fun (v_40 : Array Value) (h : Heap) =>
  opK Try.prog .slice (Instr.makeSlice T.sl_uint8 (.int .i64 1048576) (.int .i64 1048576)) (fun (v_41 : Sl) (h : Heap) =>
  newSlK h 1 #[(.slice v_41.a v_41.n v_41.c)] T.sl_uint8 (fun (v_42 : Sl) (h : Heap) =>
  callK Try.prog .agg F.digest_Of #[(.slice v_42.a v_42.n v_42.c)] (fun (v_43 : Array Value) (h : Heap) =>
  eqK Try.prog (binSem .neq T.api_Tag (.tmp 91) (.tmp 94) (.agg v_40) (.agg v_43)) (fun (v_44 : Bool) =>
  if v_44 = true then
  R (.bool false) h
  else
  J () h)) h)) h) h) ∧
  (opK Try.prog .slice (Instr.makeSlice T.sl_uint8 (.int .i64 1048576) (.int .i64 1048576)) (fun (v_45 : Sl) (h : Heap) =>
  ((callK Try.prog .agg F.digest_Hasher_Tag #[(.pointer (some ⟨p, 0, none⟩))] (fun (v_46 : Array Value) (h : Heap) =>
  newSlK h 1 #[(.slice v_45.a v_45.n v_45.c)] T.sl_uint8 (fun (v_47 : Sl) (h : Heap) =>
  callK Try.prog .agg F.digest_Of #[(.slice v_47.a v_47.n v_47.c)] (fun (v_48 : Array Value) (h : Heap) =>
  eqK Try.prog (binSem .neq T.api_Tag (.tmp 91) (.tmp 94) (.agg v_46) (.agg v_48)) (fun (v_49 : Bool) =>
  if v_49 = true then
  R (.bool false) h
  else
  J () h)) h)) h) ∧
  (newSlK h 1 #[(.slice v_45.a v_45.n v_45.c)] T.sl_uint8 (fun (v_50 : Sl) (h : Heap) =>
  callK Try.prog .agg F.digest_Hasher_Tag #[(.pointer (some ⟨p, 0, none⟩))] (fun (v_51 : Array Value) (h : Heap) =>
  callK Try.prog .agg F.digest_Of #[(.slice v_50.a v_50.n v_50.c)] (fun (v_52 : Array Value) (h : Heap) =>
  eqK Try.prog (binSem .neq T.api_Tag (.tmp 91) (.tmp 94) (.agg v_51) (.agg v_52)) (fun (v_53 : Bool) =>
  if v_53 = true then
  R (.bool false) h
  else
  J () h)) h) h)))) h))) h) h) h))) h)) h)) h) h) h) h) := by
  have hone : ∀ x ∈ [(1 : Int)], isByte x := by simp [isByte]
  obtain ⟨bz, hbz, hln, hbi⟩ : ∃ bz : List Int, List.replicate 1048576 (Value.int .u8 0) = bz.map byV ∧ bz.length = 1048576 ∧ ∀ x ∈ bz, isByte x := ⟨_, zeroBy _, List.length_replicate, zeroIs _⟩
  have hb1 : total [bz] = 1048576 := by simp [total, hln]
  have hb2 : total [bz, [1]] = 1048577 := by simp [total, hln]
  rw [hbz] at oa
  refine newSl_C q 0 rfl fun s1 q1 m1 o1 n1 c1 => ?_
  replace m := m.step m1 (by simp)
  replace hd := hd.mv m1 (by simp) (by simp)
  refine hashWrite (by decide) (by decide) (by decide) hd (by decide) s1 [bz, [1]] (RowsC.two o1.rd (oa.rd.mv m1 (by simp)) oa.cap (oe.rd.mv m1 (by simp)) oe.cap) (twoRow hbi hone) (by omega) (by simp) (fun h => absurd h (by simp [hb2])) (fun _ => ⟨_, rfl, ?_⟩)
  dsimp only
  rw [if_neg (by decide)]
  refine hashLen hd ⟨_, rfl, ?_⟩
  dsimp only
  rw [if_neg (by decide)]
  refine hashTag hd (by decide) fun q2 m2 => ⟨_, rfl, ?_⟩
  replace m := m.step m2 (by simp)
  replace hd := hd.mv m2 (by simp) (by simp)
  try dsimp only
  refine refOf_spec q2 ⟨none, 0, 0⟩ [] (RdC.nil _ _ 0 _ _) (by decide) (by simp) fun q3 m3 => ⟨_, rfl, ?_⟩
  replace m := m.step m3 (by simp)
  replace hd := hd.mv m3 (by simp) (by simp)
  try dsimp only
  refine sha_neq rfl ?_
  rw [if_neg (by decide)]
  refine make_C (l := 1048576) (k := 1048576) (e := T.uint8) (by_ := 1) (z := .int .u8 0) (by kernel_rfl) (by kernel_rfl) rfl (by omega) q3 0 (Nat.le_refl _) (by omega) fun s4 q4 m4 o4 n4 c4 _ => ?_
  replace m := m.step m4 (by simp)
  replace hd := hd.mv m4 (by simp) (by simp)
  rw [hbz] at o4
  refine newSl_C q4 0 rfl fun s5 q5 m5 o5 n5 c5 => ?_
  replace m := m.step m5 (by simp)
  replace hd := hd.mv m5 (by simp) (by simp)
  refine hashWrite (by decide) (by decide) (by decide) hd (by decide) s5 [bz] (RowsC.one o5.rd (o4.rd.mv m5 (by simp)) o4.cap) (oneRow hbi) (by omega) (by simp) (fun _ q6 m6 hd => ⟨_, rfl, ?_⟩) (fun h => absurd (by simp [hb1]) h)
  rw [List.nil_append, show [bz].flatten = bz by simp] at hd
  replace m := m.step m6 (by simp)
  dsimp only
  rw [if_neg (by decide)]
  refine newSl_C q6 0 rfl fun s7 q7 m7 o7 n7 c7 => ?_
  replace m := m.step m7 (by simp)
  replace hd := hd.mv m7 (by simp) (by simp)
  refine newSl_C q7 0 rfl fun s8 q8 m8 o8 n8 c8 => ?_
  replace m := m.step m8 (by simp)
  replace hd := hd.mv m8 (by simp) (by simp)
  refine hashWrite (by decide) (by decide) (by decide) hd (by omega) s8 [[1]] (RowsC.one o8.rd (o7.rd.mv m8 (by simp)) o7.cap) (oneRow hone) (by simp [total]) (by simp) (fun h => absurd h (by simp [total]; omega)) (fun _ => ⟨_, rfl, ?_⟩)
  dsimp only
  rw [if_neg (by decide)]
  refine hashWrite (c := 0) (by decide) (by decide) (by decide) hd (by omega) ⟨none, 0, 0⟩ [] (RowsC.nil _ _ _ _) (by simp) (by simp [total]) (by simp) (fun _ q9 m9 hd => ⟨_, rfl, ?_⟩) (fun h => absurd (by simp [total]; omega) h)
  rw [List.flatten_nil, List.append_nil] at hd
  replace m := m.step m9 (by simp)
  dsimp only
  rw [if_neg (by decide)]
  refine hashLen hd ⟨_, rfl, ?_⟩
  dsimp only
  rw [if_neg (by simp [hln])]
  refine ⟨?_, ?_⟩
  · refine hashTag hd (by omega) fun q10 m10 => ⟨_, rfl, ?_⟩
    replace m := m.step m10 (by simp)
    try dsimp only
    refine make_C (l := 1048576) (k := 1048576) (e := T.uint8) (by_ := 1) (z := .int .u8 0) (by kernel_rfl) (by kernel_rfl) rfl (by omega) q10 0 (Nat.le_refl _) (by omega) fun s11 q11 m11 o11 n11 c11 _ => ?_
    replace m := m.step m11 (by simp)
    rw [hbz] at o11
    refine newSl_C q11 0 rfl fun s12 q12 m12 o12 n12 c12 => ?_
    replace m := m.step m12 (by simp)
    refine digestOf_spec q12 s12 [bz] (RowsC.one o12.rd (o11.rd.mv m12 (by simp)) o11.cap) (oneRow hbi) (by simp [total]; omega) (by simp) fun q13 m13 => ⟨_, rfl, ?_⟩
    replace m := m.step m13 (by simp)
    try dsimp only
    refine sha_neq (by simp) ?_
    rw [if_neg (by decide)]
    exact hJ q13 m
  · refine make_C (l := 1048576) (k := 1048576) (e := T.uint8) (by_ := 1) (z := .int .u8 0) (by kernel_rfl) (by kernel_rfl) rfl (by omega) q9 0 (Nat.le_refl _) (by omega) fun s11 q11 m11 o11 n11 c11 _ => ?_
    replace m := m.step m11 (by simp)
    replace hd := hd.mv m11 (by simp) (by simp)
    rw [hbz] at o11
    exact tagCmp hd o11.rd o11.cap hbi rfl (by omega) fun q12 m12 => hJ q12 (m.step m12 (by simp))

theorem cutAt (i : Nat) : ∃ k : Nat, k ≤ 65 ∧ [Value.int .i64 0, .int .i64 1, .int .i64 63, .int .i64 64, .int .i64 65, .int .i64 55, .int .i64 56][i % 7]? = some (Kd.inj (.int .i64) (k : Int)) := by
  have h : i % 7 < 7 := Nat.mod_lt _ (by decide)
  rcases hi : i % 7 with _ | _ | _ | _ | _ | _ | _ | n
  · exact ⟨0, by decide, rfl⟩
  · exact ⟨1, by decide, rfl⟩
  · exact ⟨63, by decide, rfl⟩
  · exact ⟨64, by decide, rfl⟩
  · exact ⟨65, by decide, rfl⟩
  · exact ⟨55, by decide, rfl⟩
  · exact ⟨56, by decide, rfl⟩
  · omega
theorem wrapByte (n : Int) : isByte (IntKind.u8.wrap n) := by
  simp only [IntKind.wrap, IntKind.bits, IntKind.signed]; unfold isByte; simp; omega
theorem rowSl {g : GH} {c : Nat} {v : Sl} {xs : List Int} (r : RdC 1 g c v (xs.map byV)) (hc : v.n ≤ v.c) (hs : xs.length ≤ 1000000) (h : ∀ x ∈ xs, isByte x) : SlC g c (.int .u8) v xs := .ofInts r hc (by omega) fun x hx => h x hx

set_option maxRecDepth 20000 in
set_option maxHeartbeats 1000000 in
theorem DigestEnds_spec (g : GH) {R : Value → Heap → Prop} (H : ∀ g' : GH, Mv [] g g' → R (.bool true) g'.h) : HC Try.prog F.law02_DigestEnds #[] R g.h := by
  refine law02_DigestEnds.calls ?_
  unfold law02_DigestEnds.body
  refine loopW_rule (fun st h' => ∃ (i : Nat) (s : Sl) (bs : List Int) (q : GH), i ≤ 131 ∧ st = (s, (i : Int)) ∧ h' = q.h ∧ Mv [1] g.base q ∧ OwnC T.uint8 1 q 1 s (bs.map byV) ∧ bs.length = i ∧ ∀ x ∈ bs, isByte x) (fun st => 131 - st.2.toNat)
    ⟨0, ⟨none, 0, 0⟩, [], g.base, by omega, rfl, rfl, Mv.refl _ _, OwnC.nil _ _ _ _, rfl, by simp⟩ ?_
  rintro X _ _ ⟨i, s, bs, q, hi, rfl, rfl, m, ho, hl, hby⟩ hX
  have hn := ho.len
  have hcap := ho.cap
  simp only [List.length_map] at hn
  dsimp only
  by_cases hlt : i < 131
  · rw [if_pos (by simp; omega)]
    refine newSl_C q 2 rfl fun s1 q1 m1 o1 n1 c1 => ?_
    replace m := m.step m1 (by simp)
    replace ho := ho.mv m1 (by simp)
    refine ⟨by decide, ?_⟩
    have e1 : Int.tmod (i : Int) 7 = ((i % 7 : Nat) : Int) := by rw [Int.tmod_eq_emod_of_nonneg (by omega)]; omega
    rw [e1]
    obtain ⟨k, hk, hgk⟩ := cutAt i
    refine idxLoadN o1.rd.rd (by kernel_rfl) (k := .int .i64) _ hgk ?_
    refine joinW_intro (fun _ h' => ∃ q : GH, h' = q.h ∧ Mv [1] g.base q ∧ OwnC T.uint8 1 q 1 s (bs.map byV)) ?_ ?_
    · intro J hJ
      replace hJ : ∀ q' : GH, Mv [1] g.base q' → OwnC T.uint8 1 q' 1 s (bs.map byV) → J () q'.h := fun q' a b => hJ () _ ⟨q', rfl, a, b⟩
      refine newSl_C q1 1 rfl fun s2 q2 m2 o2 n2 c2 => ?_
      replace m := m.step m2 (by simp)
      replace ho := ho.mv m2 (by simp)
      refine DigestTells_spec q2 (c := 1) s2 [bs] (SlC.ofSls (sls := [s]) o2.rd o2.cap (by simp) rfl (all2_cons (rowSl ho.rd hcap (by omega) hby) all2_nil)) fun q3 m3 => ⟨_, rfl, ?_⟩
      replace m := m.step m3 (by simp)
      replace ho := ho.mv m3 (by simp)
      dsimp only
      rw [if_neg (by decide)]
      refine make_C (e := T.uint8) (by_ := 1) (z := .int .u8 0) (by kernel_rfl) (by kernel_rfl) rfl (by omega) q3 2 (Nat.le_refl _) (by omega) fun s4 q4 m4 o4 n4 c4 _ => ?_
      rw [zeroBy] at o4
      replace m := m.step m4 (by simp)
      replace ho := ho.mv m4 (by simp)
      refine newSl_C q4 2 rfl fun s5 q5 m5 o5 n5 c5 => ?_
      replace m := m.step m5 (by simp)
      replace ho := ho.mv m5 (by simp)
      replace o4 := o4.mv m5 (by simp)
      refine DigestTells_spec q5 (c := 2) s5 [List.replicate i 0] (SlC.ofSls (sls := [s4]) o5.rd o5.cap (by simp) rfl (all2_cons (rowSl o4.rd o4.cap (by simp; omega) (zeroIs _)) all2_nil)) fun q6 m6 => ⟨_, rfl, ?_⟩
      replace m := m.step m6 (by simp)
      replace ho := ho.mv m6 (by simp)
      dsimp only
      rw [if_neg (by decide)]
      by_cases hki : k ≤ i
      · rw [if_pos (by simp; omega)]
        refine slice_to (n := k) ho.plain rfl (by omega) ?_
        refine slice_from (n := k) rfl (by omega) hcap ?_
        have r1 := ho.rd.take (n := k) (k := s.c) (by simp; omega)
        have r2 := ho.rd.drop (sz := sizeOfT Try.prog T.uint8) (n := k) (by kernel_rfl) (by simp; omega) hcap
        rw [← List.map_take] at r1
        rw [← List.map_drop] at r2
        refine newSl_C q6 1 rfl fun s7 q7 m7 o7 n7 c7 => ?_
        replace m := m.step m7 (by simp)
        replace ho := ho.mv m7 (by simp)
        refine DigestTells_spec q7 (c := 1) s7 [bs.take k, [], bs.drop k] (SlC.ofSls (sls := [_, ⟨none, 0, 0⟩, _]) o7.rd o7.cap (by simp) rfl (all2_cons (rowSl (r1.mv m7 (by simp)) (by show k ≤ s.c; omega) (by simp; omega) fun x hx => hby x (List.mem_of_mem_take hx)) (all2_cons (SlC.nil _ _ _) (all2_cons (rowSl (r2.mv m7 (by simp)) (by show s.n - k ≤ s.c - k; omega) (by simp; omega) fun x hx => hby x (List.mem_of_mem_drop hx)) all2_nil)))) fun q8 m8 => ⟨_, rfl, ?_⟩
        replace m := m.step m8 (by simp)
        replace ho := ho.mv m8 (by simp)
        dsimp only
        rw [if_neg (by decide)]
        exact hJ q8 m ho
      · rw [if_neg (by simp; omega)]
        exact hJ q6 m ho
    · rintro _ _ ⟨q, rfl, m, ho⟩
      refine newSl_C q 2 rfl fun s1 q1 m1 o1 n1 c1 => ?_
      replace m := m.step m1 (by simp)
      replace ho := ho.mv m1 (by simp)
      refine append_C (e := T.uint8) (e2 := T.uint8) (sz := 1) (by_ := 1) (z := .int .u8 0) (by kernel_rfl) (by kernel_rfl) (by kernel_rfl) rfl (by omega) ho o1.rd.rd (by simp [Value.oneCell']) (by omega) fun s2 q2 m2 o2 hn2 _ => ?_
      rw [wrapSucc (by omega)]
      refine hX _ _ ⟨i + 1, s2, bs ++ [_], q2, by omega, rfl, rfl, m.step m2 (by simp), by simpa using o2, by simp [hl], ?_⟩ (by simp; omega)
      intro x hx
      rcases List.mem_append.1 hx with hx | hx
      · exact hby x hx
      · simp at hx; subst hx; exact wrapByte _
  · rw [if_neg (by simp; omega)]
    clear hX ho
    have m := m.mono (L := KE) (by simp)
    refine NewHash_spec q 1 2 fun p q1 m1 hd => ⟨_, rfl, ?_⟩
    replace m := m.step m1 (by simp)
    refine joinW_intro (fun _ h' => ∃ q : GH, h' = q.h ∧ Mv KE g.base q) ?_ ?_
    · intro J hJ
      replace hJ : ∀ q' : GH, Mv KE g.base q' → J () q'.h := fun q' a => hJ () _ ⟨q', rfl, a⟩
      refine ⟨?_, ?_⟩
      · refine make_C (l := 1048576) (k := 1048576) (e := T.uint8) (by_ := 1) (z := .int .u8 0) (by kernel_rfl) (by kernel_rfl) rfl (by omega) q1 0 (Nat.le_refl _) (by omega) fun s2 q2 m2 o2 n2 c2 _ => ?_
        replace m := m.step m2 (by simp)
        replace hd := hd.mv m2 (by simp) (by simp)
        refine newSl_C q2 0 rfl fun s3 q3 m3 o3 n3 c3 => ?_
        exact endsTail (m.step m3 (by simp)) (hd.mv m3 (by simp) (by simp)) (o2.mv m3 (by simp)) o3 hJ
      · refine newSl_C q1 0 rfl fun s3 q3 m3 o3 n3 c3 => ?_
        replace m := m.step m3 (by simp)
        replace hd := hd.mv m3 (by simp) (by simp)
        refine make_C (l := 1048576) (k := 1048576) (e := T.uint8) (by_ := 1) (z := .int .u8 0) (by kernel_rfl) (by kernel_rfl) rfl (by omega) q3 0 (Nat.le_refl _) (by omega) fun s2 q2 m2 o2 n2 c2 _ => ?_
        exact endsTail (m.step m2 (by simp)) (hd.mv m2 (by simp) (by simp)) o2 (o3.mv m2 (by simp)) hJ
    · rintro _ _ ⟨q, rfl, m⟩
      refine none_spec q fun q1 m1 => ⟨_, rfl, ?_⟩
      replace m := m.step m1 (by simp)
      dsimp only
      rw [if_pos rfl]
      refine awake_spec q1 fun q2 m2 => ⟨_, rfl, ?_⟩
      replace m := m.step m2 (by simp)
      exact H (g.via q2 fun _ => 0) (m.via (by simp) _)

theorem DigestEnds_walk (h : Heap) : HC Try.prog F.law02_DigestEnds #[] (fun v h' => v = .bool true ∧ Ext h h') h :=
  DigestEnds_spec ⟨h, fun _ => 0⟩ fun g' m => ⟨rfl, m.ext (by simp)⟩

end Go.Proofs.Ytkpcoknfojnlbaa
