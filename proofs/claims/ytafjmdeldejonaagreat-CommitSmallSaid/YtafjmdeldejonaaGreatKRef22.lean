/-
  The document's covers; what opens them.
-/
import Derived.Test.YtafjmdeldejonaaGreatKCoin
import Derived.Test.YtafjmdeldejonaaGreatKRef02
import Derived.Test.YtafjmdeldejonaaGreatMem3
set_option linter.unusedSimpArgs false
set_option linter.unusedVariables false
namespace Go.Proofs.YtafjmdeldejonaaGreat
open Go Go.Ev

theorem four22_spec (q : GH) (k : Nat) (x : Int) {R : Value → Heap → Prop} (H : ∀ (s : Sl) (q' : GH), Mv [] q q' → OwnC T.uint8 1 q' k s ((fourB x).map byV) → R (.slice s.a s.n s.c) q'.h) : HC Tryz.prog F.ref17_Four #[.int .i64 x] R q.h := by
  refine ref17_Four.calls ?_
  unfold ref17_Four.body
  refine ⟨by decide, by decide, by decide, ?_⟩
  exact newSl_C q k rfl fun s q' m o hn hc => H s q' m o

/-- A real maker of the document's. -/
def Mk22 (g : GH) (c p : Nat) : Prop := ∃ (cells : Array Value) (e : TypeId), BlkC g c p cells e ∧ cells[0]? = some (.bool true)
theorem Mk22.mv {K : List Nat} {g g' : GH} {c p : Nat} (x : Mk22 g c p) (m : Mv K g g') (hk : c ∉ K) : Mk22 g' c p := by
  obtain ⟨cells, e, b, h⟩ := x
  exact ⟨cells, e, b.mv m hk, h⟩
theorem Mk22.base {g : GH} {c p : Nat} (x : Mk22 g c p) : Mk22 g.base 0 p := by
  obtain ⟨cells, e, b, h⟩ := x
  exact ⟨cells, e, b.base, h⟩
theorem refSum22_spec {g : GH} {c d p : Nat} (x : Mk22 g c p) (b : Sl) (bs : List Int) (hr : RdC 1 g d b (bs.map byV)) (hl : bs.length ≤ 80000000) (hby : ∀ x ∈ bs, isByte x) {R : Value → Heap → Prop} (H : ∀ g' : GH, Mv [] g g' → R (.agg (tagA (shaB bs))) g'.h) :
    HC Tryz.prog F.ref04_Maker_Sum #[.pointer (some ⟨p, 0, none⟩), .slice b.a b.n b.c] R g.h := by
  refine ref04_Maker_Sum.calls (b1 := b) ?_
  unfold ref04_Maker_Sum.body
  have m := Mv.refl [1] g.base
  have x0 := x.base
  rw [zTag]
  refine new_C g.base 1 fun t q1 m1 b1 => ?_
  replace m := m.step m1 (by simp)
  obtain ⟨cells, e, bx, h0⟩ := x0.mv m1 (by simp)
  rw [derefK_some, fldK_some, loadK_C bx]
  refine ⟨true, h0, ?_⟩
  rw [if_pos rfl]
  refine refOf_spec q1 b bs (hr.arg m (by simp)) hl hby fun q2 m2 => ⟨_, rfl, ?_⟩
  replace m := m.step m2 (by simp)
  refine result_C (n := 32) szTag dTag (b1.mv m2 (by simp)) (by simp) (by simp [shaB_length]) (fun v hv => oneBy _ v hv) fun q3 m3 => ?_
  replace m := m.step m3 (by simp)
  exact H (g.via q3 fun _ => 0) (m.via (by simp) _)

theorem raw22_spec (g : GH) (c : Nat) (t : List Int) (okt : ShTag.ok t) {R : Value → Heap → Prop} (H : ∀ (s : Sl) (g' : GH), Mv [] g g' → OwnC T.uint8 1 g' c s (t.map byV) → R (.slice s.a s.n s.c) g'.h) : HC Tryz.prog F.ref22_raw #[.agg (tagA t)] R g.h := by
  refine ref22_raw.calls ?_
  unfold ref22_raw.body
  have htb := okTagB okt
  have m := Mv.refl [1, 2, 3] g.base
  refine new_C g.base 1 fun pt q1 m1 bt => ?_
  replace m := m.step m1 (by simp)
  refine loopW_rule (fun st h' => ∃ (i : Nat) (q : GH) (s : Sl), i ≤ 32 ∧ st = (s, (i : Int)) ∧ h' = q.h ∧ Mv [1, 2, 3] g.base q ∧ BlkC q 1 pt (tagA t) T.api_Tag ∧ OwnC T.uint8 1 q 2 s ((t.take i).map byV)) (fun st => 32 - st.2.toNat)
    ⟨0, q1, ⟨none, 0, 0⟩, by omega, rfl, rfl, m, bt, OwnC.nil _ _ _ _⟩ ?_
  clear m m1 bt
  rintro X _ _ ⟨i, q, s, hi, rfl, rfl, m, bt, o⟩ hX
  dsimp only
  by_cases hlt : i < 32
  · rw [if_pos (by simp; omega)]
    have hti : i < t.length := by rw [htb.1]; exact hlt
    refine idxArr_N zU8 (by omega) ?_
    rw [loadK_C bt]
    refine ⟨t[i], by simp [Kd.inj, byV, List.getElem?_eq_getElem hti], ?_⟩
    refine newSl_C q 3 rfl fun s2 q2 m2 o2 hn2 hc2 => ?_
    have hol := o.len
    simp only [List.length_map, List.length_take] at hol
    refine append_C (e := T.uint8) (e2 := T.uint8) (sz := 1) (by_ := 1) (z := .int .u8 0) (by kernel_rfl) (by kernel_rfl) (by kernel_rfl) rfl (by omega) (o.mv m2 (by simp)) o2.rd.rd (by intro v hv; simp at hv; subst hv; rfl) (by omega) fun s3 q3 m3 o3 hn3 _ => ?_
    rw [wrapSucc (by omega)]
    refine hX _ _ ⟨i + 1, q3, s3, by omega, rfl, rfl, (m.step m2 (by simp)).step m3 (by simp), (bt.mv m2 (by simp)).mv m3 (by simp), ?_⟩ (by simp; omega)
    rw [List.take_succ_eq_append_getElem hti, List.map_append]
    exact o3
  · rw [if_neg (by simp; omega)]
    have hi' : i = 32 := by omega
    subst hi'
    rw [List.take_of_length_le (by rw [htb.1]; omega)] at o
    exact H s (g.via q fun _ => c) (m.via (by simp) _) (o.via m (by simp) _)

set_option maxHeartbeats 1000000 in
theorem ref22Cover_spec {g : GH} {c d p : Nat} (x : Mk22 g c p) (nonce : List Int) (okn : ShTag.ok nonce) (v : Sl) (rows : List (List Int)) (hr : RowsC g d v rows) (hby : ∀ xs ∈ rows, ∀ x ∈ xs, isByte x) (ht : total rows ≤ 10000000) (hl : rows.length ≤ 1000000) (asked : List ShThing.T) {R : Value → Heap → Prop}
    (H : ∀ g' : GH, Mv [] g g' → R (.tuple #[.agg (tagA (coverT true asked nonce rows).1), .int .i64 (coverT true asked nonce rows).2.1]) g'.h) :
    HC Tryz.prog F.ref22_Cover #[.pointer (some ⟨p, 0, none⟩), .agg (tagA nonce), .slice v.a v.n v.c] R g.h := by
  refine ref22_Cover.calls (rows2 := v) ?_
  unfold ref22_Cover.body
  have htb := okTagB okn
  have m := Mv.refl [1, 2, 3, 4, 5] g.base
  replace x := x.base
  have hr0 : ∀ q : GH, Mv [1, 2, 3, 4, 5] g.base q → RowsC q 0 v rows := fun q m => hr.arg m (by simp)
  have hn := hr.len
  refine new_C g.base 1 fun pn q1 m1 bn => ?_
  replace m := m.step m1 (by simp)
  replace x := x.mv m1 (by simp)
  rw [zTag]
  refine new_C q1 2 fun pt q2 m2 bt => ?_
  replace m := m.step m2 (by simp)
  replace x := x.mv m2 (by simp)
  replace bn := bn.mv m2 (by simp)
  have hrun : ∀ i, (rowsB (rows.take i)).length = 4 * (rows.take i).length + total (rows.take i) := by
    intro i
    generalize rows.take i = l
    induction l with
    | nil => rfl
    | cons a l ih =>
      have : rowsB (a :: l) = runB a ++ rowsB l := by simp [rowsB]
      rw [this, List.length_append, ih]
      simp [runB, fourB_length, total]
      omega
  refine loopW_rule (fun st h' => ∃ (i : Nat) (q : GH) (s : Sl), i ≤ rows.length ∧ st = (s, (i : Int)) ∧ h' = q.h ∧ Mv [1, 2, 3, 4, 5] g.base q ∧ Mk22 q 0 p ∧ BlkC q 1 pn (tagA nonce) T.api_Tag ∧ BlkC q 2 pt (Array.replicate 32 (.int .u8 0)) T.api_Tag ∧ OwnC T.uint8 1 q 3 s ((rowsB (rows.take i)).map byV)) (fun st => rows.length - st.2.toNat)
    ⟨0, q2, ⟨none, 0, 0⟩, by omega, rfl, rfl, m, x, bn, bt, OwnC.nil _ _ _ _⟩ ?_
  clear m m1 m2 x bn bt
  rintro X _ _ ⟨i, q, s, hi, rfl, rfl, m, x, bn, bt, o⟩ hX
  dsimp only
  have hol := o.len
  rw [List.length_map, hrun] at hol
  have htl := total_le (xss := rows) i
  have htk : (rows.take i).length ≤ i := by rw [List.length_take]; omega
  by_cases hlt : i < rows.length
  · rw [if_pos (by simp; omega)]
    have rr := hr0 q m
    obtain ⟨sls, h1, h2, h3⟩ := rr
    have hi2 : i < sls.length := by omega
    obtain ⟨bb, oo, cc, hcc⟩ := h1.at_ (by intro e; rw [List.map_eq_nil_iff] at e; rw [e] at hi2; simp at hi2) (rfl : (1 : Nat) = 1)
    have hz : sizeOfT Tryz.prog T.sl_uint8 = 1 := by kernel_rfl
    rw [hz]
    have hget : (sls.map slV)[i]? = some (slV sls[i]) := by simp [List.getElem?_eq_getElem hi2]
    have hsl := h3 i sls[i] rows[i] (List.getElem?_eq_getElem hi2) (List.getElem?_eq_getElem hlt)
    refine hcc _ _ (by omega) (by simp; omega) ?_
    refine hcc _ _ (by omega) (by simp; omega) ?_
    rw [Int.toNat_natCast]
    refine loadK_cells cc (k := .slice) (j := i) sls[i] rfl hget ?_
    refine loadK_cells cc (k := .slice) (j := i) sls[i] rfl hget ?_
    have hsn := hsl.1.len
    rw [List.length_map] at hsn
    refine four22_spec q 4 _ fun s3 q3 m3 o3 => ⟨s3, rfl, ?_⟩
    replace m := m.step m3 (by simp)
    replace x := x.mv m3 (by simp)
    replace bn := bn.mv m3 (by simp)
    replace bt := bt.mv m3 (by simp)
    refine ⟨stillK_cells (cc.mv m3 (by simp)) (j := i) rfl hget, ?_⟩
    have h3l := o3.len
    rw [List.length_map, fourB_length] at h3l
    have htt := total_take hlt
    have htl2 := total_le (xss := rows) (i + 1)
    refine append_C (e := T.uint8) (e2 := T.uint8) (sz := 1) (by_ := 1) (z := .int .u8 0) (by kernel_rfl) (by kernel_rfl) (by kernel_rfl) rfl (by omega) (o.mv m3 (by simp)) o3.rd.rd (fun v hv => oneBy _ v hv) (by omega) fun s4 q4 m4 o4 hn4 _ => ?_
    replace m := m.step m4 (by simp)
    replace x := x.mv m4 (by simp)
    replace bn := bn.mv m4 (by simp)
    replace bt := bt.mv m4 (by simp)
    refine ⟨stillK_cells ((cc.mv m3 (by simp)).mv m4 (by simp)) (j := i) rfl hget, ?_⟩
    refine append_C (e := T.uint8) (e2 := T.uint8) (sz := 1) (by_ := 1) (z := .int .u8 0) (by kernel_rfl) (by kernel_rfl) (by kernel_rfl) rfl (by omega) o4 ((hsl.1.mv m3 (by simp)).mv m4 (by simp)).rd (fun v hv => oneBy _ v hv) (by omega) fun s5 q5 m5 o5 hn5 _ => ?_
    rw [wrapSucc (by omega)]
    refine hX _ _ ⟨i + 1, q5, s5, by omega, rfl, rfl, m.step m5 (by simp), x.mv m5 (by simp), bn.mv m5 (by simp), bt.mv m5 (by simp), ?_⟩ (by simp; omega)
    have e : rowsB (rows.take (i + 1)) = rowsB (rows.take i) ++ fourB (rows[i].length : Nat) ++ rows[i] := by
      rw [List.take_succ_eq_append_getElem hlt]
      unfold rowsB
      rw [List.map_append, List.flatten_append, List.append_assoc]
      simp only [List.map_cons, List.map_nil, List.flatten_cons, List.flatten_nil, List.append_nil, runB]
    rw [e, List.map_append, List.map_append, ← hsn]
    exact o5
  · rw [if_neg (by simp; omega)]
    have hi' : i = rows.length := by omega
    subst hi'
    rw [List.take_length] at o hol
    refine loadAgg_whole bn (tagA_size htb.1) ?_
    refine raw22_spec q 4 nonce okn fun s3 q3 m3 o3 => ⟨s3, rfl, ?_⟩
    replace m := m.step m3 (by simp)
    replace x := x.mv m3 (by simp)
    replace bt := bt.mv m3 (by simp)
    have h3l := o3.len
    rw [List.length_map, htb.1] at h3l
    refine append_C (e := T.uint8) (e2 := T.uint8) (sz := 1) (by_ := 1) (z := .int .u8 0) (by kernel_rfl) (by kernel_rfl) (by kernel_rfl) rfl (by omega) (o.mv m3 (by simp)) o3.rd.rd (fun v hv => oneBy _ v hv) (by omega) fun s4 q4 m4 o4 hn4 _ => ?_
    replace m := m.step m4 (by simp)
    replace x := x.mv m4 (by simp)
    replace bt := bt.mv m4 (by simp)
    have o4' : OwnC T.uint8 1 q4 3 s4 ((bodyB22 nonce rows).map byV) := by unfold bodyB22; rw [List.map_append]; exact o4
    have h4l := o4'.len
    rw [List.length_map] at h4l
    have hbb : ∀ z ∈ bodyB22 nonce rows, isByte z := by
      intro z hz
      rcases List.mem_append.1 hz with hz | hz
      · obtain ⟨r, h1, h2⟩ := List.mem_flatten.1 hz
        obtain ⟨xs, h3, rfl⟩ := List.mem_map.1 h1
        rcases List.mem_append.1 h2 with h2 | h2
        · simp only [fourB, List.mem_cons, List.mem_nil_iff, or_false] at h2
          rcases h2 with rfl | rfl | rfl | rfl <;> exact isByte_wrap _
        · exact hby xs h3 z h2
      · exact htb.2 z hz
    have fin : ∀ (q : GH) (u : List Int) (e : Int), coverT true asked nonce rows = (u, e, asked) → u.length = 32 → Mv [1, 2, 3, 4, 5] g.base q → BlkC q 2 pt (Array.replicate 32 (.int .u8 0)) T.api_Tag →
        storeAggK (sizeOfT Tryz.prog T.api_Tag) q.h (some ⟨pt, 0, none⟩) (tagA u) (fun (h : Heap) =>
        quietK Tryz.prog .agg (Instr.loadAt T.api_Tag (.pointer (some ⟨pt, 0, none⟩))) (fun (r_16 : Array Value) =>
        R (.tuple #[(.agg r_16), (.int .i64 e)]) h) h) := by
      intro q u e he hu m bt
      refine result_C (n := 32) szTag dTag bt (by simp) (by simp [hu]) (fun v hv => oneBy _ v hv) fun q5 m5 => ?_
      have := H (g.via q5 fun _ => 0) ((m.step m5 (by simp)).via (by simp) _)
      rw [he] at this
      exact this
    by_cases hb : (bodyB22 nonce rows).length ≤ 65536
    · rw [if_neg (by simp; omega)]
      refine newSl_C q4 4 rfl fun s5 q5 m5 o5 hn5 hc5 => ?_
      replace m := m.step m5 (by simp)
      replace x := x.mv m5 (by simp)
      replace bt := bt.mv m5 (by simp)
      replace o4' := o4'.mv m5 (by simp)
      refine convRd (e := T.uint8) (by kernel_rfl) (by kernel_rfl) o5 (by simp) fun q6 m6 r6 k6 => ?_
      replace m := m.step m6 (by simp)
      replace x := x.mv m6 (by simp)
      replace bt := bt.mv m6 (by simp)
      replace o4' := o4'.mv m6 (by simp)
      have r6' : RdC 1 q6 4 s5 (hideB.map byV) := r6
      have h32 : 32 ≤ (bodyB22 nonce rows).length := by simp [bodyB22, htb.1]
      refine appendNew_C (e := T.uint8) (e2 := T.uint8) (sz := 1) (by_ := 1) (z := .int .u8 0) (by kernel_rfl) (by kernel_rfl) (by kernel_rfl) rfl (by omega) 5 r6'.rd o4'.rd.rd (by omega) (by omega) fun s7 q7 m7 o7 hn7 => ?_
      replace m := m.step m7 (by simp)
      replace x := x.mv m7 (by simp)
      replace bt := bt.mv m7 (by simp)
      have o7' : OwnC T.uint8 1 q7 5 s7 ((hideB ++ bodyB22 nonce rows).map byV) := by rw [List.map_append]; exact o7
      refine refSum22_spec x s7 _ o7'.rd (by simp [hideB]; omega) (fun z hz => by
        rcases List.mem_append.1 hz with hz | hz
        · have : ∀ y ∈ hideB, isByte y := by simp [hideB, isByte]
          exact this z hz
        · exact hbb z hz) fun q8 m8 => ⟨_, rfl, ?_⟩
      exact fin q8 _ 0 (by unfold coverT; rw [if_pos hb]; rfl) (shaB_length _) (m.step m8 (by simp)) (bt.mv m8 (by simp))
    · rw [if_pos (by simp; omega)]
      refine ⟨tagA zero32, fun w => by kernel_rfl, ?_⟩
      exact fin q4 zero32 3 (by unfold coverT; rw [if_neg hb]) zero32_tag.1 m bt

/-! ### What opens a cover -/

def fitsT (t u : List Int) (e : Int) : Int := if ¬ e = 0 then e else if t = u then 0 else 7
theorem fits_spec {g : GH} {t u : List Int} {e : Int} (ht : ShTag.ok t) (hu : u.length = 32 ∧ ∀ x ∈ u, isByte x) {R : Value → Heap → Prop} (H : ∀ g' : GH, Mv [] g g' → R (.int .i64 (fitsT t u e)) g'.h) : HC Tryz.prog F.ref22_Fits #[.agg (tagA t), .agg (tagA u), .int .i64 e] R g.h := by
  refine ref22_Fits.calls ?_
  unfold ref22_Fits.body
  have htb := okTagB ht
  have m := Mv.refl [1, 2] g.base
  refine new_C g.base 1 fun p1 q1 m1 b1 => ?_
  replace m := m.step m1 (by simp)
  refine new_C q1 2 fun p2 q2 m2 b2 => ?_
  replace m := m.step m2 (by simp)
  replace b1 := b1.mv m2 (by simp)
  replace H := H (g.via q2 fun _ => 0) (m.via (by simp) _)
  unfold fitsT at H
  by_cases he : e = 0
  · rw [if_neg (by simp [he])] at H ⊢
    refine loadAgg_whole b1 (tagA_size htb.1) ?_
    refine loadAgg_whole b2 (tagA_size hu.1) ?_
    refine tag_neq htb.1 htb.2 hu.1 hu.2 ?_
    by_cases h : t = u
    · rw [if_neg (by simp [h])]; rw [if_pos h] at H; exact H
    · rw [if_pos (by simpa using h)]; rw [if_neg h] at H; exact H
  · rw [if_pos (by simpa using he)]
    rw [if_pos he] at H
    exact H

theorem opened_spec {g : GH} {c k p : Nat} {real : Bool} {seed : List Int} {B : List ShThing.T} {t u : List Int} {e : Int} (ht : ShTag.ok t) (hu : u.length = 32 ∧ ∀ x ∈ u, isByte x) (hck : ¬ c = k) (f : FuncId) (cap : Array Value)
    (hask : ∀ q : GH, Mv [] g q → ∀ R' : Value → Heap → Prop, (∀ q' : GH, Mv [k] q q' → MakC q' c k p real seed B → R' (.tuple #[.agg (tagA u), .int .i64 e]) q'.h) → HC Tryz.prog f (appA (appA #[] #[]) cap) R' q.h) {R : Value → Heap → Prop}
    (H : ∀ g' : GH, Mv [k] g g' → MakC g' c k p real seed B → R (.int .i64 (fitsT t u e)) g'.h) : HC Tryz.prog F.commit_opened #[.agg (tagA t), .func (.func f) #[] cap] R g.h := by
  refine commit_opened.calls ?_
  unfold commit_opened.body
  have htb := okTagB ht
  obtain ⟨y1, hy1, n1⟩ := fresh_exists g [c, k]
  obtain ⟨y2, hy2, n2⟩ := fresh_exists g [c, k, y1]
  simp only [List.mem_cons, List.mem_nil_iff, or_false, not_or] at n1 n2
  refine new_C g y1 fun p1 q1 m1 b1 => ?_
  refine callV_fn ?_
  refine hask q1 m1 _ fun q2 m2 x2 => ⟨(_, _), rfl, ?_⟩
  have b2 := b1.mv m2 (by simp [n1.2])
  dsimp only
  refine newStore_C q2 y2 (by rw [szTag]; simp [hu.1]) (by rw [zTag, szTag]; simp) (fun v hv => oneBy _ v hv) fun px q3 m3 bx => ?_
  have M : Mv [k, y1, y2] g q3 := ((Mv.mono m1 (L := [k, y1, y2]) (by simp)).step m2 (by simp)).step m3 (by simp)
  have hre : ∀ j ∈ [k, y1, y2], j ∈ [k] ∨ Fresh g j := by
    intro j hj
    simp only [List.mem_cons, List.mem_nil_iff, or_false] at hj
    rcases hj with rfl | rfl | rfl
    · exact .inl (by simp)
    · exact .inr hy1
    · exact .inr hy2
  have H2 := H (g.via q3 id) (M.re id hre) ((x2.mv m3 (by simp) (by simp)).re (φ := id) M (.inl rfl) (.inl rfl))
  unfold fitsT at H2
  by_cases he : e = 0
  · rw [if_neg (by simp [he])] at H2 ⊢
    refine loadAgg_whole bx (tagA_size hu.1) ?_
    refine loadAgg_whole (b2.mv m3 (by simp)) (tagA_size htb.1) ?_
    refine tag_neq hu.1 hu.2 htb.1 htb.2 ?_
    by_cases h : t = u
    · rw [if_neg (by simp [h])]; rw [if_pos h] at H2; exact H2
    · rw [if_pos (by simpa using fun e : u = t => h e.symm)]; rw [if_neg h] at H2; exact H2
  · rw [if_pos (by simpa using he)]
    rw [if_pos he] at H2
    exact H2

set_option maxHeartbeats 1000000 in
theorem open_spec {g : GH} {c k p d : Nat} (hck : ¬ c = k) {real : Bool} {seed : List Int} {asked : List ShThing.T} (x : MakC g c k p real seed asked) (t : List Int) (okt : ShTag.ok t) (nonce : List Int) (okn : ShTag.ok nonce) (v : Sl) (rows : List (List Int)) (hr : RowsC g d v rows) (hby : ∀ xs ∈ rows, ∀ x ∈ xs, isByte x) (hxl : ∀ x ∈ rows, x.length ≤ 90000000) (hl : rows.length ≤ 1000000000) {R : Value → Heap → Prop}
    (H : ∀ g' : GH, Mv [k] g g' → MakC g' c k p real seed (coverT real asked nonce rows).2.2 → R (.int .i64 (fitsT t (coverT real asked nonce rows).1 (coverT real asked nonce rows).2.1)) g'.h) :
    HC Tryz.prog F.commit_Open #[.pointer (some ⟨p, 0, none⟩), .agg (tagA t), .agg (tagA nonce), .slice v.a v.n v.c] R g.h := by
  refine commit_Open.calls (rows3 := v) ?_
  unfold commit_Open.body
  have htb := okTagB okt
  have hnb := okTagB okn
  obtain ⟨y1, hy1, n1⟩ := fresh_exists g [c, k, d]
  obtain ⟨y2, hy2, n2⟩ := fresh_exists g [c, k, d, y1]
  simp only [List.mem_cons, List.mem_nil_iff, or_false, not_or] at n1 n2
  have m := Mv.refl [k, y1, y2] g
  refine new_C g y1 fun pm q1 m1 bm => ?_
  replace m := m.step m1 (by simp)
  refine new_C q1 y1 fun pt q2 m2 bt => ?_
  replace m := m.step m2 (by simp)
  refine new_C q2 y1 fun pn q3 m3 bn => ?_
  replace m := m.step m3 (by simp)
  refine new_C q3 y1 fun pr q4 m4 br => ?_
  replace m := m.step m4 (by simp)
  have bm4 := ((bm.mv m2 (by simp)).mv m3 (by simp)).mv m4 (by simp)
  have bt4 := (bt.mv m3 (by simp)).mv m4 (by simp)
  have bn4 := bn.mv m4 (by simp)
  have x4 := (((x.mv m1 (by simp) (by simp)).mv m2 (by simp) (by simp)).mv m3 (by simp) (by simp)).mv m4 (by simp) (by simp)
  have r4 := (((hr.mv m1 (by simp)).mv m2 (by simp)).mv m3 (by simp)).mv m4 (by simp)
  refine loadAgg_whole bt4 (tagA_size htb.1) ?_
  refine opened_spec (c := c) (k := k) (p := p) (real := real) (seed := seed) (B := (coverT real asked nonce rows).2.2) (e := (coverT real asked nonce rows).2.1) okt (coverT_tag real asked nonce rows) hck _ _ (fun q mq R' hR' => ?_) fun q5 m5 x5 => ⟨_, rfl, ?_⟩
  · show HC Tryz.prog F.commit_Open_1 #[.pointer (some ⟨pm, 0, none⟩), .pointer (some ⟨pn, 0, none⟩), .pointer (some ⟨pr, 0, none⟩)] R' q.h
    refine commit_Open_1.calls ?_
    unfold commit_Open_1.body
    obtain ⟨z, hz, nz⟩ := fresh_exists q [c, k, d, y1]
    simp only [List.mem_cons, List.mem_nil_iff, or_false, not_or] at nz
    rw [zTag]
    refine new_C q z fun pz q6 m6 bz => ?_
    have bm6 := (bm4.mv mq (by simp)).mv m6 (by simp)
    have bn6 := (bn4.mv mq (by simp)).mv m6 (by simp)
    have br6 := (br.mv mq (by simp)).mv m6 (by simp)
    have x6 := (x4.mv mq (by simp) (by simp)).mv m6 (by simp) (by simp)
    have r6 := (r4.mv mq (by simp)).mv m6 (by simp)
    rw [loadK_C bm6]
    refine ⟨some ⟨p, 0, none⟩, rfl, ?_⟩
    refine loadAgg_whole bn6 (tagA_size hnb.1) ?_
    rw [loadK_C br6]
    refine ⟨v, rfl, ?_⟩
    refine cover_spec hck x6 nonce okn v rows r6 hby hxl hl fun q7 m7 x7 => ⟨(_, _), rfl, ?_⟩
    try dsimp only
    refine result_C (n := 32) szTag dTag (bz.mv m7 (by simp [nz.2.1])) (by simp) (by simp [(coverT_tag _ _ _ _).1]) (fun v hv => oneBy _ v hv) fun q8 m8 => ?_
    have M : Mv [k, z] q q8 := ((Mv.mono m6 (L := [k, z]) (by simp)).step m7 (by simp)).step m8 (by simp)
    refine hR' (q.via q8 id) (M.re id fun j hj => ?_) ((x7.mv m8 (by simp [Ne.symm nz.1]) (by simp [Ne.symm nz.2.1])).re (φ := id) M (.inl rfl) (.inl rfl))
    simp only [List.mem_cons, List.mem_nil_iff, or_false] at hj
    rcases hj with rfl | rfl
    · exact .inl (by simp)
    · exact .inr hz
  · replace m := m.step m5 (by simp)
    refine H (g.via q5 id) (m.re id fun j hj => ?_) (x5.re (φ := id) m (.inl rfl) (.inl rfl))
    simp only [List.mem_cons, List.mem_nil_iff, or_false] at hj
    rcases hj with rfl | rfl | rfl
    · exact .inl (by simp)
    · exact .inr hy1
    · exact .inr hy2

end Go.Proofs.YtafjmdeldejonaaGreat
