/-
  The statements of layer 03, their parts: the example, sizes, a tag checked.
-/
import Derived.Test.YtcbpajedibamoaaKRef03
import Derived.Test.YtcbpajedibamoaaKLaw02
set_option linter.unusedSimpArgs false
set_option linter.unusedVariables false
namespace Go.Proofs.Ytcbpajedibamoaa
open Go Go.Ev

theorem ref03Check_spec (g : GH) {d e : Nat} (v w : Sl) (ks t bs : List Int) (htl : t.length = 32) (htb : ∀ x ∈ t, isByte x) (hk : RdC 1 g e v (ks.map byV)) (hkl : ks.length ≤ 70000000) (hkb : ∀ x ∈ ks, isByte x)
    (hr : RdC 1 g d w (bs.map byV)) (hby : ∀ x ∈ bs, isByte x) (hl : bs.length ≤ 70000000) {R : Value → Heap → Prop} (H : ∀ g' : GH, Mv [] g g' → R (.int .i64 (if macB ks bs = t then 0 else 7)) g'.h) :
    HC Try.prog F.ref03_Check #[.slice v.a v.n v.c, .agg (tagA t), .slice w.a w.n w.c] R g.h := by
  refine ref03_Check.calls (key0 := v) (b2 := w) ?_
  unfold ref03_Check.body
  have m := Mv.refl [1] g.base
  refine new_C g.base 1 fun b q1 m1 b1 => ?_
  replace m := m.step m1 (by simp)
  refine loadAgg_whole b1 (tagA_size htl) ?_
  refine ref03Of_spec q1 v w ks bs (hk.arg m (by simp)) hkl hkb (hr.arg m (by simp)) hby hl fun q2 m2 => ⟨_, rfl, stillAgg_whole (b1.mv m2 (by simp)) (tagA_size htl), ?_⟩
  replace m := m.step m2 (by simp)
  refine tag_neq (macB_length _ _) (macB_byte _ _) htl htb ?_
  have hh := H (g.via q2 fun _ => 0) (m.via (by simp) _)
  by_cases he : macB ks bs = t
  · rw [if_neg (by simp [he])]
    rw [if_pos he] at hh
    exact hh
  · rw [if_pos (by simp [he])]
    rw [if_neg he] at hh
    exact hh

theorem size03_spec {g : GH} {c : Nat} (v : Sl) (xss : List (List Int)) (hr : RowsC g c v xss) (hx : ∀ xs ∈ xss, xs.length ≤ 140737488351232) (hl : xss.length ≤ 140737488351232) {R : Value → Heap → Prop} (H : ∀ n : Nat, n ≤ 1000000000000000 → (n ≤ 700 → total xss + xss.length ≤ 700) → R (.int .i64 (n : Int)) g.h) :
    HC Try.prog F.law03_size #[.slice v.a v.n v.c] R g.h := by
  refine law03_size.calls (rows0 := v) ?_
  unfold law03_size.body
  have hn := hr.len
  refine loopW_rule (fun st h' => ∃ i : Nat, i ≤ xss.length ∧ st = (((v.n + total (xss.take i) : Nat) : Int), (i : Int)) ∧ g.h = h' ∧ v.n + total (xss.take i) ≤ 1000000000000000) (fun st => xss.length - st.2.toNat) ⟨0, by omega, by simp [total], rfl, by simp [total]; omega⟩ ?_
  rintro X _ _ ⟨i, hi, rfl, rfl, hb⟩ hX
  have htl := total_le (xss := xss) i
  dsimp only
  by_cases hlt : i < xss.length
  · rw [if_pos (by simp; omega)]
    by_cases hm : v.n + total (xss.take i) ≤ 700
    · rw [if_pos (by simp; omega)]
      have := hx _ (List.getElem_mem hlt)
      refine hr.idx (by kernel_rfl) hlt fun s1 r1 _ => ?_
      have h1 := r1.len
      have ht := total_take hlt
      simp at h1
      rw [wrapI64 (by omega) (by omega), wrapSucc (by omega)]
      refine hX _ _ ⟨i + 1, by omega, by simp; omega, rfl, by omega⟩ (by simp; omega)
    · rw [if_neg (by simp; omega)]
      exact H _ (by omega) (by omega)
  · rw [if_neg (by simp; omega)]
    have hi' : i = xss.length := by omega
    subst hi'
    rw [List.take_length] at *
    exact H _ (by omega) (by omega)

theorem jefe : macB [74, 101, 102, 101] [119, 104, 97, 116, 32, 100, 111, 32, 121, 97, 32, 119, 97, 110, 116, 32, 102, 111, 114, 32, 110, 111, 116, 104, 105, 110, 103, 63] =
    [91, 220, 193, 70, 191, 96, 117, 78, 106, 4, 36, 38, 8, 149, 117, 199, 90, 0, 63, 8, 157, 39, 57, 131, 157, 236, 88, 185, 100, 236, 56, 67] := by decide +kernel

theorem idxLit {b o len sz : Nat} {i : Int} {K : Addr → Prop} (n : Nat) (hi : i = (n : Int)) (hsz : sz = 1) (h1 : n < len) (hK : K ⟨b, o + n, none⟩) : idxArrK (some ⟨b, o, none⟩) len i sz K := by
  subst hi; exact idxArr_N hsz h1 hK

theorem awake03_spec (g : GH) {R : Value → Heap → Prop} (H : ∀ g' : GH, Mv [] g g' → R (.bool true) g'.h) : HC Try.prog F.law03_awake #[] R g.h := by
  refine law03_awake.calls ?_
  unfold law03_awake.body
  have m := Mv.refl [1, 2, 3] g.base
  refine newSl_C g.base 1 rfl fun s1 q1 m1 o1 n1 c1 => ?_
  replace m := m.step m1 (by simp)
  refine conv_C (P := Try.prog) (t := T.sl_uint8) (e := T.uint8) (by kernel_rfl) (by kernel_rfl) o1 (by simp) fun q2 m2 k2 => ?_
  replace m := m.step m2 (by simp)
  have r1 := k2 _ _ _ _ o1.rd
  refine newSl_C q2 1 rfl fun s3 q3 m3 o3 n3 c3 => ?_
  replace m := m.step m3 (by simp)
  replace r1 := r1.mv m3 (by simp)
  refine conv_C (P := Try.prog) (t := T.sl_uint8) (e := T.uint8) (by kernel_rfl) (by kernel_rfl) o3 (by simp) fun q4 m4 k4 => ?_
  replace m := m.step m4 (by simp)
  replace r1 := k4 _ _ _ _ r1
  have r3 := k4 _ _ _ _ o3.rd
  refine newSl_C q4 1 rfl fun s5 q5 m5 o5 n5 c5 => ?_
  replace m := m.step m5 (by simp)
  replace r1 := r1.mv m5 (by simp)
  replace r3 := r3.mv m5 (by simp)
  refine conv_C (P := Try.prog) (t := T.sl_uint8) (e := T.uint8) (by kernel_rfl) (by kernel_rfl) o5 (by simp) fun q6 m6 k6 => ?_
  replace m := m.step m6 (by simp)
  replace r1 := k6 _ _ _ _ r1
  replace r3 := k6 _ _ _ _ r3
  have r5 := k6 _ _ _ _ o5.rd
  refine newSl_C q6 1 rfl fun s7 q7 m7 o7 n7 c7 => ?_
  replace m := m.step m7 (by simp)
  replace r1 := r1.mv m7 (by simp)
  replace r3 := r3.mv m7 (by simp)
  replace r5 := r5.mv m7 (by simp)
  refine macOf_spec q7 s1 s7 [74, 101, 102, 101] [[119, 104, 97, 116, 32, 100, 111, 32, 121, 97, 32, 119, 97, 110, 116, 32], [102, 111, 114, 32, 110, 111, 116, 104, 105, 110, 103, 63]] r1 (by omega) (by decide) (by simp [isByte]) (RowsC.two o7.rd r3 (by omega) r5 (by omega)) (by simp [isByte]) (by decide) (by decide) fun q8 m8 => ⟨_, rfl, ?_⟩
  rw [show ([[119, 104, 97, 116, 32, 100, 111, 32, 121, 97, 32, 119, 97, 110, 116, 32], [102, 111, 114, 32, 110, 111, 116, 104, 105, 110, 103, 63]] : List (List Int)).flatten = [119, 104, 97, 116, 32, 100, 111, 32, 121, 97, 32, 119, 97, 110, 116, 32, 102, 111, 114, 32, 110, 111, 116, 104, 105, 110, 103, 63] from rfl, jefe]
  replace m := m.step m8 (by simp)
  try dsimp only
  rw [zTag]
  refine new_C q8 2 fun t q9 m9 b9 => ?_
  replace m := m.step m9 (by simp)
  refine storeAgg_C b9 (by rw [szTag]; rfl) (by rw [szTag]; simp) (fun v hv => oneBy _ v hv) fun q10 m10 b10 => ?_
  rw [overA_all (by simp)] at b10
  replace m := m.step m10 (by simp)
  refine idxLit 0 rfl (by kernel_rfl) (by decide) ?_
  rw [loadK_C b10]
  refine ⟨91, by rfl, ?_⟩
  rw [if_pos (by decide)]
  refine idxLit 1 rfl (by kernel_rfl) (by decide) ?_
  rw [loadK_C b10]
  refine ⟨220, by rfl, ?_⟩
  rw [if_pos (by decide)]
  refine idxLit 2 rfl (by kernel_rfl) (by decide) ?_
  rw [loadK_C b10]
  refine ⟨193, by rfl, ?_⟩
  rw [if_pos (by decide)]
  refine idxLit 3 rfl (by kernel_rfl) (by decide) ?_
  rw [loadK_C b10]
  refine ⟨70, by rfl, ?_⟩
  rw [if_pos (by decide)]
  refine idxLit 30 rfl (by kernel_rfl) (by decide) ?_
  rw [loadK_C b10]
  refine ⟨56, by rfl, ?_⟩
  rw [if_pos (by decide)]
  refine idxLit 31 rfl (by kernel_rfl) (by decide) ?_
  rw [loadK_C b10]
  refine ⟨67, by rfl, ?_⟩
  exact H (g.via q10 fun _ => 0) (m.via (by simp) _)

end Go.Proofs.Ytcbpajedibamoaa
