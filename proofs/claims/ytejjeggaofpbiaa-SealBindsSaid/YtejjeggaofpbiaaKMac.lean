/-
  The package of keyed digests, and the document's own: contracts of its functions.
-/
import Derived.Test.YtejjeggaofpbiaaKRef02
import Derived.Test.YtejjeggaofpbiaaFlat
import Derived.Test.YtejjeggaofpbiaaBuild
set_option linter.unusedSimpArgs false
set_option linter.unusedVariables false
namespace Go.Proofs.Ytejjeggaofpbiaa
open Go Go.Ev

/-! ### In plain Lean -/

def turnB (m b : Int) : Int := IntKind.u8.wrap ((BitVec.ofInt (IntKind.bits .u8) b ^^^ BitVec.ofInt (IntKind.bits .u8) m).toNat : Int)
def shortB (ks : List Int) : List Int := if 64 < ks.length then shaB ks else ks
def keyB (ks : List Int) : List Int := shortB ks ++ List.replicate (64 - (shortB ks).length) 0
def macB (ks bs : List Int) : List Int := shaB ((keyB ks).map (turnB 92) ++ shaB ((keyB ks).map (turnB 54) ++ bs))

theorem wrapIsByte (n : Int) : isByte (IntKind.u8.wrap n) := by
  simp only [IntKind.wrap, IntKind.bits, IntKind.signed]; unfold isByte; simp; omega
theorem turnB_byte (m b : Int) : isByte (turnB m b) := wrapIsByte _
theorem turnsB_byte (m : Int) (ks : List Int) : ∀ x ∈ ks.map (turnB m), isByte x := by
  intro x hx
  obtain ⟨b, _, rfl⟩ := List.mem_map.1 hx
  exact turnB_byte _ _
theorem shortB_le (ks : List Int) : (shortB ks).length ≤ 64 := by
  unfold shortB
  split
  · rw [shaB_length]; omega
  · omega
theorem keyB_length (ks : List Int) : (keyB ks).length = 64 := by
  have := shortB_le ks
  simp [keyB]; omega
theorem keyB_byte {ks : List Int} (h : ∀ x ∈ ks, isByte x) : ∀ x ∈ keyB ks, isByte x := by
  intro x hx
  unfold keyB shortB at hx
  rcases List.mem_append.1 hx with hx | hx
  · split at hx
    · exact shaB_byte _ x hx
    · exact h x hx
  · rw [(List.mem_replicate.1 hx).2]; unfold isByte; omega
theorem macB_length (ks bs : List Int) : (macB ks bs).length = 32 := shaB_length _
theorem macB_byte (ks bs : List Int) : ∀ x ∈ macB ks bs, isByte x := shaB_byte _

/-- What the walk has turned so far. -/
def turnTo (m : Int) (ks : List Int) (i : Nat) : List Int := (ks.take i).map (turnB m) ++ ks.drop i
theorem turnTo_length (m : Int) (ks : List Int) (i : Nat) (h : i ≤ ks.length) : (turnTo m ks i).length = ks.length := by simp [turnTo]; omega
theorem turnTo_get (m : Int) (ks : List Int) (i : Nat) (h : i < ks.length) : (turnTo m ks i)[i]? = some ks[i] := by
  unfold turnTo
  have hl : ((ks.take i).map (turnB m)).length = i := by simp; omega
  rw [List.getElem?_append_right (by omega), hl, List.getElem?_drop, Nat.sub_self, Nat.add_zero, List.getElem?_eq_getElem h]
theorem turnTo_set (m : Int) (ks : List Int) (i : Nat) (h : i < ks.length) : (turnTo m ks i).set i (turnB m ks[i]) = turnTo m ks (i + 1) := by
  unfold turnTo
  have hl : ((ks.take i).map (turnB m)).length = i := by simp; omega
  rw [List.set_append_right _ _ (by omega), hl, Nat.sub_self, List.drop_eq_getElem_cons h, List.set_cons_zero, List.take_succ_eq_append_getElem h, List.map_append]
  simp

/-! ### The package -/

theorem zBlock : zerosOf Try.prog T.mac_block = Array.replicate 64 (.int .u8 0) := by kernel_rfl
theorem szBlock : sizeOfT Try.prog T.mac_block = 64 := by kernel_rfl
theorem dBlock (p : Option Addr) : doesLoad Try.prog T.mac_block (.pointer p) = .quietP fun h K => loadAggK (sizeOfT Try.prog T.mac_block) h p fun cs => K (.agg cs) := by kernel_rfl

theorem blkA_size {t : List Int} (h : t.length = 64) : sizeOfT Try.prog T.mac_block = (tagA t).size := by rw [szBlock]; simp [h]

theorem keyed_spec (g : GH) {d : Nat} (v : Sl) (ks : List Int) (hr : RdC 1 g d v (ks.map byV)) (hc : v.n ≤ v.c) (hl : ks.length ≤ 70000000) (hby : ∀ x ∈ ks, isByte x) {R : Value → Heap → Prop} (H : ∀ g' : GH, Mv [] g g' → R (.agg (tagA (keyB ks))) g'.h) :
    HC Try.prog F.mac_keyed #[.slice v.a v.n v.c] R g.h := by
  refine mac_keyed.calls (key0 := v) ?_
  unfold mac_keyed.body
  have hn := hr.len
  simp only [List.length_map] at hn
  have m := Mv.refl [1, 2] g.base
  rw [zBlock]
  refine new_C g.base 1 fun b q1 m1 b1 => ?_
  replace m := m.step m1 (by simp)
  refine joinW_intro (fun s h' => ∃ (c : Nat) (q : GH), h' = q.h ∧ Mv [1, 2] g.base q ∧ BlkC q 1 b (Array.replicate 64 (.int .u8 0)) T.mac_block ∧ RdC 1 q c s ((shortB ks).map byV)) ?_ ?_
  · intro J hJ
    rcases Nat.lt_or_ge 64 ks.length with h | h
    · have hsh : shortB ks = shaB ks := by simp [shortB, h]
      rw [hsh] at hJ
      rw [if_pos (by simp; omega)]
      have hf : [ks].flatten = ks := by simp
      refine newSl_C q1 0 rfl fun s2 q2 m2 o2 n2 c2 => ?_
      replace m := m.step m2 (by simp)
      replace b1 := b1.mv m2 (by simp)
      refine digestOf_spec q2 s2 [ks] (RowsC.one o2.rd (hr.arg m (by simp)) hc) (fun xs hx => by simp at hx; subst hx; exact hby) (by unfold total; rw [hf]; omega) (by simp) fun q3 m3 => ⟨_, rfl, ?_⟩
      rw [hf]
      replace m := m.step m3 (by simp)
      replace b1 := b1.mv m3 (by simp)
      try dsimp only
      rw [zTag]
      refine new_C q3 2 fun t q4 m4 b4 => ?_
      replace m := m.step m4 (by simp)
      replace b1 := b1.mv m4 (by simp)
      refine storeAgg_C b4 (tagA_size (shaB_length ks)).symm (by rw [szTag]; simp) (fun v hv => oneBy _ v hv) fun q5 m5 b5 => ?_
      rw [overA_all (by simp [shaB_length])] at b5
      replace m := m.step m5 (by simp)
      replace b1 := b1.mv m5 (by simp)
      refine sliceArr_C 0 32 rfl rfl (by decide) ?_
      exact hJ _ _ ⟨2, q5, rfl, m, b1, by rw [Nat.zero_mul]; exact blkRd b5 (by rw [shaB_length])⟩
    · rw [if_neg (by simp; omega)]
      have hsh : shortB ks = ks := by simp [shortB]; omega
      exact hJ _ _ ⟨0, q1, rfl, m, b1, by rw [hsh]; exact hr.arg m (by simp)⟩
  · rintro s _ ⟨c, q, rfl, m, hb, hs⟩
    refine sliceArr_C 0 64 rfl rfl (by decide) ?_
    have hsn := hs.len
    simp only [List.length_map] at hsn
    have hle := shortB_le ks
    refine copy_C (e := T.uint8) (by kernel_rfl) (by kernel_rfl) hb (s := ⟨some ⟨b, 0 + 0 * _, none⟩, 64 - 0, 64 - 0⟩) (by rw [Nat.zero_mul]) (by simp) hs.rd (oneBy _) fun q2 m2 b2 => ?_
    replace m := m.step m2 (by simp)
    have e1 : overA (Array.replicate 64 (.int .u8 0)) 0 (((shortB ks).map byV).take (min s.n (64 - 0))) = tagA (keyB ks) := by
      rw [List.take_of_length_le (by simp; omega)]
      unfold overA keyB
      show _ = (List.map byV (shortB ks ++ List.replicate (64 - (shortB ks).length) 0)).toArray
      rw [Array.toList_replicate, List.drop_replicate, List.take_zero, List.nil_append, List.map_append, List.map_replicate, List.length_map, Nat.zero_add]
    have b3 : BlkC q2 1 b (tagA (keyB ks)) T.mac_block := by rw [← e1]; exact b2
    have hk := keyB_length ks
    refine loadAgg_whole b3 (blkA_size hk) ?_
    refine result_C (n := 64) szBlock dBlock b3 (by simp [hk]) (by simp [hk]) (fun v hv => oneBy _ v hv) fun q4 m4 => ?_
    replace m := m.step m4 (by simp)
    exact H (g.via q4 fun _ => 0) (m.via (by simp) _)

set_option maxRecDepth 4000 in
theorem turned_spec (g : GH) (c : Nat) (ks : List Int) (hl : ks.length = 64) (t : Int) {R : Value → Heap → Prop} (H : ∀ (s : Sl) (g' : GH), Mv [] g g' → RdC 1 g' c s ((ks.map (turnB t)).map byV) → s.n ≤ s.c → R (.slice s.a s.n s.c) g'.h) :
    HC Try.prog F.mac_block_turned #[.agg (tagA ks), .int .u8 t] R g.h := by
  refine mac_block_turned.calls ?_
  unfold mac_block_turned.body
  have m := Mv.refl [1] g.base
  refine new_C g.base 1 fun b q1 m1 b1 => ?_
  replace m := m.step m1 (by simp)
  refine loopW_rule (fun st h' => ∃ (i : Nat) (q : GH), i ≤ 64 ∧ st = (i : Int) ∧ h' = q.h ∧ Mv [1] g.base q ∧ BlkC q 1 b (tagA (turnTo t ks i)) T.mac_block) (fun st => 64 - st.toNat) ⟨0, q1, by omega, rfl, rfl, m, by simpa [turnTo] using b1⟩ ?_
  clear m b1
  rintro X _ _ ⟨i, q, hi, rfl, rfl, m, hb⟩ hX
  have hlt' := turnTo_length t ks i (by omega)
  by_cases hlt : i < 64
  · rw [if_pos (by simp; omega)]
    refine idxArr_N (by kernel_rfl) (by omega) ?_
    rw [Nat.zero_add, loadK_C hb]
    refine ⟨ks[i], by simp [turnTo_get t ks i (by omega), Kd.inj], ?_⟩
    refine idxArr_N (by kernel_rfl) (by omega) ?_
    rw [Nat.zero_add]
    refine store_C hb (by simp; omega) rfl fun q2 m2 b2 => ?_
    rw [wrapSucc (by omega)]
    refine hX _ _ ⟨i + 1, q2, by omega, rfl, rfl, m.step m2 (by simp), ?_⟩ (by simp; omega)
    have : (tagA (turnTo t ks i)).setIfInBounds i (byV (turnB t ks[i])) = tagA (turnTo t ks (i + 1)) := by
      rw [← turnTo_set t ks i (by omega), List.setIfInBounds_toArray]
      show _ = (List.map byV ((turnTo t ks i).set i (turnB t ks[i]))).toArray
      rw [List.map_set]
    rw [← this]; exact b2
  · rw [if_neg (by simp; omega)]
    have hi' : i = 64 := by omega
    subst hi'
    refine sliceArr_C 0 64 rfl rfl (by decide) ?_
    have hall : turnTo t ks 64 = ks.map (turnB t) := by simp [turnTo, ← hl]
    rw [hall] at hb
    have := (blkRd (k := 64) hb (n := 64) (by simp [hl])).via m (by simp) fun _ => c
    exact H ⟨some ⟨b, 0, none⟩, 64, 64⟩ (g.via q fun _ => c) (m.via (by simp) _) this (by simp)

theorem sealerTag_spec (g : GH) {d e : Nat} (ks : List Int) (hkl : ks.length = 64) (w : Sl) (xss : List (List Int)) (hr : RowsC g d w xss) (hby : ∀ xs ∈ xss, ∀ x ∈ xs, isByte x) (ht : total xss ≤ 70000000) (hl : xss.length ≤ 10000000)
    {R : Value → Heap → Prop} (H : ∀ g' : GH, Mv [] g g' → R (.agg (tagA (shaB (ks.map (turnB 92) ++ shaB (ks.map (turnB 54) ++ xss.flatten))))) g'.h) : HC Try.prog F.mac_sealer_tag #[.agg (tagA ks), .slice w.a w.n w.c] R g.h := by
  refine mac_sealer_tag.calls (rows1 := w) ?_
  unfold mac_sealer_tag.body
  have hn := hr.len
  have m := Mv.refl [1, 2, 3, 4, 5] g.base
  refine new_C g.base 1 fun b q1 m1 b1 => ?_
  replace m := m.step m1 (by simp)
  rw [zTag]
  refine new_C q1 2 fun t q2 m2 b2 => ?_
  replace m := m.step m2 (by simp)
  replace b1 := b1.mv m2 (by simp)
  rw [fldK_some]
  refine loadAgg_whole b1 (blkA_size hkl) ?_
  refine turned_spec q2 4 ks hkl 54 fun s3 q3 m3 r3 c3 => ⟨_, rfl, ?_⟩
  replace m := m.step m3 (by simp)
  replace b1 := b1.mv m3 (by simp)
  replace b2 := b2.mv m3 (by simp)
  try dsimp only
  refine newSl_C q3 3 rfl fun s4 q4 m4 o4 n4 c4 => ?_
  replace m := m.step m4 (by simp)
  replace b1 := b1.mv m4 (by simp)
  replace b2 := b2.mv m4 (by simp)
  replace r3 := r3.mv m4 (by simp)
  obtain ⟨sls, h1, h2, h3⟩ := hr
  refine append_C (e := T.sl_uint8) (e2 := T.sl_uint8) (sz := 1) (by_ := 24) (z := .slice none 0 0) (by kernel_rfl) (by kernel_rfl) (by kernel_rfl) rfl (by omega) o4 (h1.arg m (by simp)).rd (by intro v hv; obtain ⟨_, _, rfl⟩ := List.mem_map.1 hv; rfl) (by have := o4.len; simp at this; omega) fun s5 q5 m5 o5 n5 _ => ?_
  replace m := m.step m5 (by simp)
  replace b1 := b1.mv m5 (by simp)
  replace b2 := b2.mv m5 (by simp)
  replace r3 := r3.mv m5 (by simp)
  have hrow : RowsC q5.base 0 s5 ([ks.map (turnB 54)] ++ xss) := by
    refine .of (sls := [s3] ++ sls) (by have := o5.rd.base; simpa using this) (by simp [h2]) fun i sl xs a b => ?_
    rcases i with _ | i
    · simp at a b
      subst a b
      exact ⟨r3.base, c3⟩
    · rw [List.getElem?_append_right (by simp)] at a b
      have := h3 i sl xs (by simpa using a) (by simpa using b)
      exact ⟨(this.1.arg m (by simp)).base, this.2⟩
  have hfl : ([ks.map (turnB 54)] ++ xss).flatten = ks.map (turnB 54) ++ xss.flatten := by simp
  have hfn : xss.flatten.length ≤ 70000000 := ht
  refine digestOf_spec q5.base s5 _ hrow (fun xs hx => by
    rcases List.mem_append.1 hx with hx | hx
    · simp at hx; subst hx; exact turnsB_byte _ _
    · exact hby xs hx) (by unfold total; rw [hfl, List.length_append, List.length_map]; omega) (by simp; omega) fun q6 m6 => ⟨_, rfl, ?_⟩
  rw [hfl]
  have m7 := m6.via (g := q5) (by simp) fun _ => 0
  have e6 : q6.h = (q5.via q6 fun _ => 0).h := rfl
  try dsimp only
  rw [e6]
  generalize (q5.via q6 fun _ => 0) = q7 at m7
  replace m := m.step m7 (by simp)
  replace b1 := b1.mv m7 (by simp)
  replace b2 := b2.mv m7 (by simp)
  generalize hin : shaB (ks.map (turnB 54) ++ xss.flatten) = inn
  have hil : inn.length = 32 := by rw [← hin]; exact shaB_length _
  have hib : ∀ x ∈ inn, isByte x := by rw [← hin]; exact shaB_byte _
  refine new_C q7 5 fun u q8 m8 b8 => ?_
  replace m := m.step m8 (by simp)
  replace b1 := b1.mv m8 (by simp)
  replace b2 := b2.mv m8 (by simp)
  refine storeAgg_C b8 (tagA_size hil).symm (by rw [szTag]; simp) (fun v hv => oneBy _ v hv) fun q9 m9 b9 => ?_
  rw [overA_all (by simp [hil])] at b9
  replace m := m.step m9 (by simp)
  replace b1 := b1.mv m9 (by simp)
  replace b2 := b2.mv m9 (by simp)
  rw [fldK_some]
  refine sliceArr_C 0 32 rfl rfl (by decide) ?_
  refine loadAgg_whole b1 (blkA_size hkl) ?_
  refine turned_spec q9 5 ks hkl 92 fun s10 q10 m10 r10 c10 => ⟨_, rfl, ?_⟩
  replace m := m.step m10 (by simp)
  replace b9 := b9.mv m10 (by simp)
  replace b2 := b2.mv m10 (by simp)
  try dsimp only
  refine newSl_C q10 5 rfl fun s11 q11 m11 o11 n11 c11 => ?_
  replace m := m.step m11 (by simp)
  replace b9 := b9.mv m11 (by simp)
  replace b2 := b2.mv m11 (by simp)
  replace r10 := r10.mv m11 (by simp)
  have hf2 : [ks.map (turnB 92), inn].flatten = ks.map (turnB 92) ++ inn := by simp
  refine digestOf_spec q11 s11 [ks.map (turnB 92), inn] (RowsC.two (b := ⟨some ⟨u, 0 + 0 * _, none⟩, 32 - 0, 32 - 0⟩) o11.rd r10 c10 (by rw [Nat.zero_mul]; exact blkRd b9 (by rw [hil])) (by simp)) (fun xs hx => by
    simp at hx
    rcases hx with rfl | rfl
    · exact turnsB_byte _ _
    · exact hib) (by unfold total; rw [hf2]; simp; omega) (by simp) fun q12 m12 => ⟨_, rfl, ?_⟩
  rw [hf2]
  replace m := m.step m12 (by simp)
  replace b2 := b2.mv m12 (by simp)
  refine result_C (n := 32) szTag dTag b2 (by simp) (by simp [shaB_length]) (fun v hv => oneBy _ v hv) fun q13 m13 => ?_
  replace m := m.step m13 (by simp)
  subst hin
  exact H (g.via q13 fun _ => 0) (m.via (by simp) _)

theorem sealerBuild (ks : List Int) (hl : ks.length = 64) (w : World) : (Instr.build T.mac_sealer #[(0, .agg (tagA ks))]).run Try.prog w = .ok (.agg (tagA ks)) w := by
  refine build_struct (fs := structFs Try.prog T.mac_sealer) (places := #[(0, 64)]) (by kernel_rfl) (z := Array.replicate 64 (.int .u8 0)) (fun w => by kernel_rfl) (fun w => by kernel_rfl) ?_ w
  have : (Value.agg (tagA ks)).cells.size = 64 := by simp [Value.cells, hl]
  simp only [fillA, List.getElem?_toArray, List.getElem?_cons_zero]
  rw [if_neg (by simp [Value.cells, hl])]
  rw [overA_all (by simp [Value.cells, hl])]
  rfl

theorem macOf_spec (g : GH) {d e : Nat} (v w : Sl) (ks : List Int) (xss : List (List Int)) (hk : RdC 1 g e v (ks.map byV)) (hkc : v.n ≤ v.c) (hkl : ks.length ≤ 70000000) (hkb : ∀ x ∈ ks, isByte x)
    (hr : RowsC g d w xss) (hby : ∀ xs ∈ xss, ∀ x ∈ xs, isByte x) (ht : total xss ≤ 70000000) (hl : xss.length ≤ 10000000) {R : Value → Heap → Prop} (H : ∀ g' : GH, Mv [] g g' → R (.agg (tagA (macB ks xss.flatten))) g'.h) :
    HC Try.prog F.mac_Of #[.slice v.a v.n v.c, .slice w.a w.n w.c] R g.h := by
  refine mac_Of.calls (key0 := v) (rows1 := w) ?_
  unfold mac_Of.body
  have m := Mv.refl [1] g.base
  rw [zTag]
  refine new_C g.base 1 fun t q1 m1 b1 => ?_
  replace m := m.step m1 (by simp)
  refine keyed_spec q1 v ks (hk.arg m (by simp)) hkc hkl hkb fun q2 m2 => ⟨_, rfl, ?_⟩
  replace m := m.step m2 (by simp)
  replace b1 := b1.mv m2 (by simp)
  refine ⟨tagA (keyB ks), sealerBuild _ (keyB_length ks), ?_⟩
  refine sealerTag_spec q2 (d := 0) (e := 0) (keyB ks) (keyB_length ks) w xss (hr.arg m (by simp)) hby ht hl fun q3 m3 => ⟨_, rfl, ?_⟩
  replace m := m.step m3 (by simp)
  replace b1 := b1.mv m3 (by simp)
  refine result_C (n := 32) szTag dTag b1 (by simp) (by simp [shaB_length]) (fun v hv => oneBy _ v hv) fun q5 m5 => ?_
  replace m := m.step m5 (by simp)
  exact H (g.via q5 fun _ => 0) (m.via (by simp) _)

end Go.Proofs.Ytejjeggaofpbiaa
