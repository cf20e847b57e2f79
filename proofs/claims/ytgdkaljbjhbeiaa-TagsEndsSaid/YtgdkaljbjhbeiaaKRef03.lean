/-
  The document's own keyed digest: contracts of its functions; and the statements' common parts.
-/
import Derived.Test.YtgdkaljbjhbeiaaKMacSame
set_option linter.unusedSimpArgs false
set_option linter.unusedVariables false
namespace Go.Proofs.Ytgdkaljbjhbeiaa
open Go Go.Ev

theorem bytes03_spec (g : GH) (c : Nat) (t : List Int) (ht : t.length = 32) {R : Value → Heap → Prop} (H : ∀ (s : Sl) (g' : GH), Mv [] g g' → OwnC T.uint8 1 g' c s (t.map byV) → R (.slice s.a s.n s.c) g'.h) :
    HC Try.prog F.ref03_bytes #[.agg (tagA t)] R g.h := by
  refine ref03_bytes.calls ?_
  unfold ref03_bytes.body
  have m := Mv.refl [1] g.base
  refine new_C g.base 2 fun b q1 m1 b1 => ?_
  replace m := m.step m1 (by simp)
  refine loopW_rule (fun st h' => ∃ (i : Nat) (s : Sl) (q : GH), i ≤ 32 ∧ st = (s, (i : Int)) ∧ h' = q.h ∧ Mv [1] g.base q ∧ BlkC q 2 b (tagA t) T.api_Tag ∧ OwnC T.uint8 1 q 1 s ((t.take i).map byV)) (fun st => 32 - st.2.toNat) ⟨0, ⟨none, 0, 0⟩, q1, by omega, rfl, rfl, m, b1, by simpa using OwnC.nil _ _ _ _⟩ ?_
  clear m b1
  rintro X _ _ ⟨i, s, q, hi, rfl, rfl, m, hb, ho⟩ hX
  have hn := ho.len
  simp only [List.length_map, List.length_take] at hn
  dsimp only
  by_cases hlt : i < 32
  · have hlx : i < t.length := by omega
    rw [if_pos (by simp; omega)]
    refine idxArr_N (by kernel_rfl) (by omega) ?_
    rw [Nat.zero_add, loadK_C hb]
    refine ⟨t[i], by simp [List.getElem?_eq_getElem hlx, Kd.inj], ?_⟩
    refine newSl_C q 2 rfl fun s2 q2 m2 o2 n2 c2 => ?_
    replace m := m.step m2 (by simp)
    replace hb := hb.mv m2 (by simp)
    replace ho := ho.mv m2 (by simp)
    refine append_C (e := T.uint8) (e2 := T.uint8) (sz := 1) (by_ := 1) (z := .int .u8 0) (by kernel_rfl) (by kernel_rfl) (by kernel_rfl) rfl (by omega) ho o2.rd.rd (by simp [Value.oneCell']) (by omega) fun s3 q3 m3 o3 hn3 _ => ?_
    rw [wrapSucc (by omega)]
    refine hX _ _ ⟨i + 1, s3, q3, by omega, rfl, rfl, m.step m3 (by simp), hb.mv m3 (by simp), ?_⟩ (by simp; omega)
    rw [List.take_succ_eq_append_getElem hlx, List.map_append]
    exact o3
  · rw [if_neg (by simp; omega)]
    have hi' : i = 32 := by omega
    subst hi'
    rw [List.take_of_length_le (by omega)] at ho
    exact H s (g.via q fun _ => c) (m.via (by simp) _) (ho.via m (by simp) _)

/-- The block so far. -/
def blkTo (t : Int) (kb : List Int) (i : Nat) : List Int := (kb.take i).map (turnB t) ++ List.replicate (64 - i) 0
theorem blkTo_length (t : Int) {kb : List Int} (hk : kb.length = 64) (i : Nat) (h : i ≤ 64) : (blkTo t kb i).length = 64 := by simp [blkTo]; omega
theorem blkTo_set (t : Int) {kb : List Int} (hk : kb.length = 64) (i : Nat) (h : i < 64) (x : Int) : (blkTo t kb i).set i x = (kb.take i).map (turnB t) ++ x :: List.replicate (63 - i) 0 := by
  unfold blkTo
  have hl : ((kb.take i).map (turnB t)).length = i := by simp; omega
  obtain ⟨k, hk⟩ : ∃ k, 64 - i = k + 1 := ⟨63 - i, by omega⟩
  rw [List.set_append_right _ _ (by omega), hl, Nat.sub_self, hk, List.replicate_succ, List.set_cons_zero, show 63 - i = k by omega]
theorem blkTo_mid (t : Int) {kb : List Int} (hk : kb.length = 64) (i : Nat) (h : i < 64) (x y : Int) : (((kb.take i).map (turnB t) ++ x :: List.replicate (63 - i) 0).set i y) = (kb.take i).map (turnB t) ++ y :: List.replicate (63 - i) 0 := by
  have hl : ((kb.take i).map (turnB t)).length = i := by simp; omega
  rw [List.set_append_right _ _ (by omega), hl, Nat.sub_self, List.set_cons_zero]
theorem blkTo_succ (t : Int) {kb : List Int} (hk : kb.length = 64) (i : Nat) (h : i < 64) : blkTo t kb (i + 1) = (kb.take i).map (turnB t) ++ turnB t (kb[i]'(by omega)) :: List.replicate (63 - i) 0 := by
  unfold blkTo
  rw [List.take_succ_eq_append_getElem (by omega), List.map_append, show 64 - (i + 1) = 63 - i by omega]
  simp

theorem keyB_lo {ks : List Int} {i : Nat} (h : i < (shortB ks).length) (h2 : i < (keyB ks).length) : (keyB ks)[i] = (shortB ks)[i] := by
  simp only [keyB]
  rw [List.getElem_append_left h]
theorem keyB_hi {ks : List Int} {i : Nat} (h : (shortB ks).length ≤ i) (h2 : i < (keyB ks).length) : (keyB ks)[i] = 0 := by
  simp only [keyB]
  rw [List.getElem_append_right h, List.getElem_replicate]

theorem block03_spec (g : GH) (c : Nat) {d : Nat} (v : Sl) (ks : List Int) (t : Int) (hr : RdC 1 g d v (ks.map byV)) (hl : ks.length ≤ 70000000) (hby : ∀ x ∈ ks, isByte x)
    {R : Value → Heap → Prop} (H : ∀ (s : Sl) (g' : GH), Mv [] g g' → OwnC T.uint8 1 g' c s (((keyB ks).map (turnB t)).map byV) → R (.slice s.a s.n s.c) g'.h) :
    HC Try.prog F.ref03_block #[.slice v.a v.n v.c, .int .u8 t] R g.h := by
  refine ref03_block.calls (key0 := v) ?_
  unfold ref03_block.body
  have hn := hr.len
  simp only [List.length_map] at hn
  have m := Mv.refl [1] g.base
  refine joinW_intro (fun s h' => ∃ (k : Nat) (q : GH), k ≠ 1 ∧ h' = q.h ∧ Mv [1] g.base q ∧ RdC 1 q k s ((shortB ks).map byV)) ?_ ?_
  · intro J hJ
    rcases Nat.lt_or_ge 64 ks.length with h | h
    · have hsh : shortB ks = shaB ks := by simp [shortB, h]
      rw [hsh] at hJ
      rw [if_pos (by simp; omega)]
      refine refOf_spec g.base v ks (hr.arg m (by simp)) (by omega) hby fun q1 m1 => ⟨_, rfl, ?_⟩
      replace m := m.step m1 (by simp)
      refine bytes03_spec q1 2 (shaB ks) (shaB_length _) fun s q2 m2 o2 => ⟨_, rfl, ?_⟩
      replace m := m.step m2 (by simp)
      exact hJ _ _ ⟨2, q2, by decide, rfl, m, o2.rd⟩
    · rw [if_neg (by simp; omega)]
      have hsh : shortB ks = ks := by simp [shortB]; omega
      exact hJ _ _ ⟨0, g.base, by decide, rfl, m, by rw [hsh]; exact hr.arg m (by simp)⟩
  · rintro w _ ⟨k, q, hk1, rfl, m, hs⟩
    have hsn := hs.len
    simp only [List.length_map] at hsn
    have hle := shortB_le ks
    have hkl := keyB_length ks
    refine make_C (l := 64) (k := 64) (e := T.uint8) (by_ := 1) (z := .int .u8 0) (by kernel_rfl) (by kernel_rfl) rfl (by omega) q 1 (Nat.le_refl _) (by omega) fun s q1 m1 o1 n1 c1 _ => ?_
    replace m := m.step m1 (by simp)
    replace hs := hs.mv m1 (by simp)
    refine loopW_rule (fun st h' => ∃ (i : Nat) (q : GH), i ≤ 64 ∧ st = (i : Int) ∧ h' = q.h ∧ Mv [1] g.base q ∧ RdC 1 q k w ((shortB ks).map byV) ∧ OwnC T.uint8 1 q 1 s ((blkTo t (keyB ks) i).map byV)) (fun st => 64 - st.toNat) ⟨0, q1, by omega, rfl, rfl, m, hs, ?_⟩ ?_
    · refine o1.cast ?_
      unfold blkTo
      rw [List.take_zero, List.map_nil, List.nil_append, List.map_replicate]
    clear m hs o1
    rintro X _ _ ⟨i, q, hi, rfl, rfl, m, hs, ho⟩ hX
    have hbl := blkTo_length t hkl i hi
    by_cases hlt : i < 64
    · rw [if_pos (by simp; omega)]
      have hik : i < (keyB ks).length := by omega
      refine joinW_intro (fun _ h' => ∃ q : GH, h' = q.h ∧ Mv [1] g.base q ∧ RdC 1 q k w ((shortB ks).map byV) ∧ OwnC T.uint8 1 q 1 s (((((keyB ks).take i).map (turnB t) ++ (keyB ks)[i] :: List.replicate (63 - i) 0)).map byV)) ?_ ?_
      · intro J hJ
        by_cases hsi : i < (shortB ks).length
        · rw [if_pos (by simp; omega)]
          refine idxLoadN hs.rd (by kernel_rfl) (k := .int .u8) (shortB ks)[i] (by rw [List.getElem?_map, List.getElem?_eq_getElem hsi]; rfl) ?_
          refine idxStore_C ho (by kernel_rfl) (by simp; omega) rfl fun q2 m2 o2 => ?_
          refine hJ _ _ ⟨q2, rfl, m.step m2 (by simp), hs.mv m2 (by simp [hk1]), o2.cast ?_⟩
          rw [← List.map_set, blkTo_set t hkl i hlt, keyB_lo hsi hik]
        · rw [if_neg (by simp; omega)]
          refine hJ _ _ ⟨q, rfl, m, hs, ho.cast ?_⟩
          rw [keyB_hi (by omega) hik]
          unfold blkTo
          rw [show 64 - i = (63 - i) + 1 by omega, List.replicate_succ]
      · rintro _ _ ⟨q, rfl, m, hs, ho⟩
        have hl1 : (((keyB ks).take i).map (turnB t)).length = i := by simp; omega
        refine idxLoadN ho.rd.rd (by kernel_rfl) (k := .int .u8) (keyB ks)[i] (by rw [List.getElem?_map, List.getElem?_append_right (by omega), hl1, Nat.sub_self]; rfl) ?_
        refine idxStore_C ho (by kernel_rfl) (by simp; omega) rfl fun q2 m2 o2 => ?_
        rw [wrapSucc (by omega)]
        refine hX _ _ ⟨i + 1, q2, by omega, rfl, rfl, m.step m2 (by simp), hs.mv m2 (by simp [hk1]), o2.cast ?_⟩ (by simp; omega)
        show List.set _ i (byV (turnB t (keyB ks)[i])) = _
        rw [← List.map_set, blkTo_mid t hkl i hlt, blkTo_succ t hkl i hlt]
    · rw [if_neg (by simp; omega)]
      have hi' : i = 64 := by omega
      subst hi'
      have hall : blkTo t (keyB ks) 64 = (keyB ks).map (turnB t) := by
        unfold blkTo
        rw [List.take_of_length_le (by omega)]
        simp
      rw [hall] at ho
      exact H s (g.via q fun _ => c) (m.via (by simp) _) (ho.via m (by simp) _)

theorem ref03Of_spec (g : GH) {d e : Nat} (v w : Sl) (ks bs : List Int) (hk : RdC 1 g e v (ks.map byV)) (hkl : ks.length ≤ 70000000) (hkb : ∀ x ∈ ks, isByte x)
    (hr : RdC 1 g d w (bs.map byV)) (hby : ∀ x ∈ bs, isByte x) (hl : bs.length ≤ 70000000) {R : Value → Heap → Prop} (H : ∀ g' : GH, Mv [] g g' → R (.agg (tagA (macB ks bs))) g'.h) :
    HC Try.prog F.ref03_Of #[.slice v.a v.n v.c, .slice w.a w.n w.c] R g.h := by
  refine ref03_Of.calls (key0 := v) (b1 := w) ?_
  unfold ref03_Of.body
  have m := Mv.refl [1, 2, 3] g.base
  have hn := hr.len
  simp only [List.length_map] at hn
  have hkn := keyB_length ks
  rw [zTag]
  refine new_C g.base 1 fun t q1 m1 b1 => ?_
  replace m := m.step m1 (by simp)
  refine block03_spec q1 2 v ks 54 (hk.arg m (by simp)) hkl hkb fun s2 q2 m2 o2 => ⟨_, rfl, ?_⟩
  replace m := m.step m2 (by simp)
  replace b1 := b1.mv m2 (by simp)
  have h2 := o2.len
  simp only [List.length_map] at h2
  refine append_C (e := T.uint8) (e2 := T.uint8) (sz := 1) (by_ := 1) (z := .int .u8 0) (by kernel_rfl) (by kernel_rfl) (by kernel_rfl) rfl (by omega) o2 (hr.arg m (by simp)).rd (oneBy _) (by omega) fun s3 q3 m3 o3 hn3 _ => ?_
  replace m := m.step m3 (by simp)
  replace b1 := b1.mv m3 (by simp)
  rw [← List.map_append] at o3
  refine refOf_spec q3 s3 _ o3.rd (by simp; omega) (fun x hx => by
    rcases List.mem_append.1 hx with hx | hx
    · exact turnsB_byte _ _ x hx
    · exact hby x hx) fun q4 m4 => ⟨_, rfl, ?_⟩
  replace m := m.step m4 (by simp)
  replace b1 := b1.mv m4 (by simp)
  generalize hin : shaB ((keyB ks).map (turnB 54) ++ bs) = inn
  have hil : inn.length = 32 := by rw [← hin]; exact shaB_length _
  have hib : ∀ x ∈ inn, isByte x := by rw [← hin]; exact shaB_byte _
  try dsimp only
  refine new_C q4 3 fun u q8 m8 b8 => ?_
  replace m := m.step m8 (by simp)
  replace b1 := b1.mv m8 (by simp)
  refine storeAgg_C b8 (tagA_size hil).symm (by rw [szTag]; simp) (fun v hv => oneBy _ v hv) fun q9 m9 b9 => ?_
  rw [overA_all (by simp [hil])] at b9
  replace m := m.step m9 (by simp)
  replace b1 := b1.mv m9 (by simp)
  refine loadAgg_whole b9 (tagA_size hil) ?_
  refine block03_spec q9 2 v ks 92 (hk.arg m (by simp)) hkl hkb fun s10 q10 m10 o10 => ⟨_, rfl, stillAgg_whole (b9.mv m10 (by simp)) (tagA_size hil), ?_⟩
  replace m := m.step m10 (by simp)
  replace b1 := b1.mv m10 (by simp)
  refine bytes03_spec q10 3 inn hil fun s11 q11 m11 o11 => ⟨_, rfl, ?_⟩
  replace m := m.step m11 (by simp)
  replace b1 := b1.mv m11 (by simp)
  replace o10 := o10.mv m11 (by simp)
  have h10 := o10.len
  have h11 := o11.len
  simp only [List.length_map] at h10 h11
  refine append_C (e := T.uint8) (e2 := T.uint8) (sz := 1) (by_ := 1) (z := .int .u8 0) (by kernel_rfl) (by kernel_rfl) (by kernel_rfl) rfl (by omega) o10 o11.rd.rd (oneBy _) (by omega) fun s12 q12 m12 o12 hn12 _ => ?_
  replace m := m.step m12 (by simp)
  replace b1 := b1.mv m12 (by simp)
  rw [← List.map_append] at o12
  refine refOf_spec q12 s12 _ o12.rd (by simp; omega) (fun x hx => by
    rcases List.mem_append.1 hx with hx | hx
    · exact turnsB_byte _ _ x hx
    · exact hib x hx) fun q13 m13 => ⟨_, rfl, ?_⟩
  replace m := m.step m13 (by simp)
  replace b1 := b1.mv m13 (by simp)
  refine result_C (n := 32) szTag dTag b1 (by simp) (by simp [shaB_length]) (fun v hv => oneBy _ v hv) fun q5 m5 => ?_
  replace m := m.step m5 (by simp)
  subst hin
  exact H (g.via q5 fun _ => 0) (m.via (by simp) _)

end Go.Proofs.Ytgdkaljbjhbeiaa
