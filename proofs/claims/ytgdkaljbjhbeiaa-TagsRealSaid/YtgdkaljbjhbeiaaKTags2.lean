/-
  Makers of tags: what they tell.
-/
import Derived.Test.YtgdkaljbjhbeiaaKTags
set_option linter.unusedSimpArgs false
set_option linter.unusedVariables false
namespace Go.Proofs.Ytgdkaljbjhbeiaa
open Go Go.Ev

/-! ### A real maker -/

theorem sumReal_spec {g : GH} {c k p d : Nat} {seed : List Int} {asked : List ShThing.T} (x : MakC g c k p true seed asked) (rows : Sl) (xss : List (List Int)) (hr : RowsC g d rows xss) (hby : ∀ xs ∈ xss, ∀ x ∈ xs, isByte x) (ht : total xss ≤ 80000000) (hl : xss.length ≤ 1000000000000)
    {R : Value → Heap → Prop} (H : ∀ g' : GH, Mv [] g g' → R (.agg (tagA (shaB xss.flatten))) g'.h) : HC Try.prog F.tags_Maker_Sum #[.pointer (some ⟨p, 0, none⟩), .slice rows.a rows.n rows.c] R g.h := by
  refine tags_Maker_Sum.calls (rows1 := rows) ?_
  unfold tags_Maker_Sum.body
  have m := Mv.refl [1] g.base
  have x0 := x.base
  rw [zTag]
  refine new_C g.base 1 fun t q1 m1 b1 => ?_
  replace m := m.step m1 (by simp)
  replace x0 := x0.mv m1 (by simp) (by simp)
  refine there_spec x0 ⟨true, rfl, ?_⟩
  obtain ⟨r, s, b, n, dd, h'⟩ := x0
  rw [if_neg (by simp), derefK_some, fldK_some, loadK_C b]
  refine ⟨true, rfl, ?_⟩
  rw [if_pos rfl]
  refine digestOf_spec q1 rows xss (hr.arg m (by simp)) hby ht hl fun q2 m2 => ⟨_, rfl, ?_⟩
  replace m := m.step m2 (by simp)
  replace b1 := b1.mv m2 (by simp)
  refine result_C (n := 32) szTag dTag b1 (by simp) (by simp [shaB_length]) (fun v hv => oneBy _ v hv) fun q5 m5 => ?_
  exact H (g.via q5 fun _ => 0) ((m.step m5 (by simp)).via (by simp) _)

theorem macReal_spec {g : GH} {c k p d e : Nat} {seed : List Int} {asked : List ShThing.T} (x : MakC g c k p true seed asked) (v w : Sl) (ks : List Int) (xss : List (List Int)) (hk : RdC 1 g e v (ks.map byV)) (hkc : v.n ≤ v.c) (hkl : ks.length ≤ 70000000) (hkb : ∀ x ∈ ks, isByte x)
    (hr : RowsC g d w xss) (hby : ∀ xs ∈ xss, ∀ x ∈ xs, isByte x) (ht : total xss ≤ 70000000) (hl : xss.length ≤ 10000000) {R : Value → Heap → Prop} (H : ∀ g' : GH, Mv [] g g' → R (.agg (tagA (macB ks xss.flatten))) g'.h) :
    HC Try.prog F.tags_Maker_Mac #[.pointer (some ⟨p, 0, none⟩), .slice v.a v.n v.c, .slice w.a w.n w.c] R g.h := by
  refine tags_Maker_Mac.calls (key1 := v) (rows2 := w) ?_
  unfold tags_Maker_Mac.body
  have m := Mv.refl [1] g.base
  have x0 := x.base
  rw [zTag]
  refine new_C g.base 1 fun t q1 m1 b1 => ?_
  replace m := m.step m1 (by simp)
  replace x0 := x0.mv m1 (by simp) (by simp)
  refine there_spec x0 ⟨true, rfl, ?_⟩
  obtain ⟨r, s, b, n, dd, h'⟩ := x0
  rw [if_neg (by simp), derefK_some, fldK_some, loadK_C b]
  refine ⟨true, rfl, ?_⟩
  rw [if_pos rfl]
  refine macOf_spec q1 v w ks xss (hk.arg m (by simp)) hkc hkl hkb (hr.arg m (by simp)) hby ht hl fun q2 m2 => ⟨_, rfl, ?_⟩
  replace m := m.step m2 (by simp)
  replace b1 := b1.mv m2 (by simp)
  refine result_C (n := 32) szTag dTag b1 (by simp) (by simp [macB, shaB_length]) (fun v hv => oneBy _ v hv) fun q5 m5 => ?_
  exact H (g.via q5 fun _ => 0) ((m.step m5 (by simp)).via (by simp) _)

def drawB : List Int := [100, 114, 97, 119]
theorem three_C {g : GH} {c : Nat} {s a b d : Sl} {xs ys zs : List Int} (r : RdC 1 g c s [slV a, slV b, slV d]) (ra : RdC 1 g c a (xs.map byV)) (ha : a.n ≤ a.c) (rb : RdC 1 g c b (ys.map byV)) (hb : b.n ≤ b.c) (rd : RdC 1 g c d (zs.map byV)) (hd : d.n ≤ d.c) : RowsC g c s [xs, ys, zs] := by
  refine .of (sls := [a, b, d]) r rfl fun i sl xs h1 h2 => ?_
  rcases i with _ | _ | _ | i
  · simp at h1 h2; subst h1 h2; exact ⟨ra, ha⟩
  · simp at h1 h2; subst h1 h2; exact ⟨rb, hb⟩
  · simp at h1 h2; subst h1 h2; exact ⟨rd, hd⟩
  · simp at h1

theorem drawTail {q : GH} {t : Nat} (n : Int) {a b s : Sl} {seed : List Int} (b1 : BlkC q 1 t (Array.replicate 32 (.int .u8 0)) T.api_Tag) (ra : RdC 1 q 0 a (drawB.map byV)) (ha : a.n ≤ a.c) (rs : RdC 1 q 0 s (seed.map byV)) (hs : s.n ≤ s.c) (hsb : ∀ x ∈ seed, isByte x) (hsl : seed.length ≤ 1000000)
    (rb : RdC 1 q 0 b ((eightB n).map byV)) (hb : b.n ≤ b.c) {R : Value → Heap → Prop} (H : ∀ g' : GH, Mv [1] q g' → R (.agg (tagA (shaB (drawB ++ seed ++ eightB n)))) g'.h) :
    newSlK q.h 3 #[(.slice a.a a.n a.c), (.slice s.a s.n s.c), (.slice b.a b.n b.c)] T.sl_uint8 (fun (v_14 : Sl) (h : Heap) =>
    callK Try.prog .agg F.digest_Of #[(.slice v_14.a v_14.n v_14.c)] (fun (v_15 : Array Value) (h : Heap) =>
    storeAggK (sizeOfT Try.prog T.api_Tag) h (some ⟨t, 0, none⟩) v_15 (fun (h : Heap) =>
    quietK Try.prog .agg (Instr.loadAt T.api_Tag (.pointer (some ⟨t, 0, none⟩))) (fun (r_16 : Array Value) =>
    R (.agg r_16) h) h)) h) := by
  have m : Mv [1] q q := Mv.refl _ _
  refine newSl_C q 0 rfl fun s1 q1 m1 o1 hn1 hc1 => ?_
  replace m := m.step m1 (by simp)
  replace b1 := b1.mv m1 (by simp)
  have rr : RowsC q1 0 s1 [drawB, seed, eightB n] := three_C (a := a) (b := s) (d := b) o1.rd (ra.mv m1 (by simp)) ha (rs.mv m1 (by simp)) hs (rb.mv m1 (by simp)) hb
  refine digestOf_spec q1 s1 _ rr (fun xs hx => by
    simp only [List.mem_cons, List.mem_nil_iff, or_false] at hx
    rcases hx with rfl | rfl | rfl
    · simp [drawB, isByte]
    · exact hsb
    · exact eightB_byte n) (by simp [total, drawB, eightB]; omega) (by simp) fun q2 m2 => ⟨_, rfl, ?_⟩
  replace m := m.step m2 (by simp)
  replace b1 := b1.mv m2 (by simp)
  refine result_C (n := 32) szTag dTag b1 (by simp) (by simp [shaB_length]) (fun v hv => oneBy _ v hv) fun q5 m5 => ?_
  have e : [drawB, seed, eightB n].flatten = drawB ++ seed ++ eightB n := by simp
  rw [e]
  exact H q5 (m.step m5 (by simp))

theorem drawReal_spec {g : GH} {c k p : Nat} {seed : List Int} {asked : List ShThing.T} (x : MakC g c k p true seed asked) (n : Int) {R : Value → Heap → Prop} (H : ∀ g' : GH, Mv [] g g' → R (.agg (tagA (shaB (drawB ++ seed ++ eightB n)))) g'.h) :
    HC Try.prog F.tags_Maker_Draw #[.pointer (some ⟨p, 0, none⟩), .int .i64 n] R g.h := by
  refine tags_Maker_Draw.calls ?_
  unfold tags_Maker_Draw.body
  have m := Mv.refl [1] g.base
  have x0 := x.base
  rw [zTag]
  refine new_C g.base 1 fun t q1 m1 b1 => ?_
  replace m := m.step m1 (by simp)
  replace x0 := x0.mv m1 (by simp) (by simp)
  refine there_spec x0 ⟨true, rfl, ?_⟩
  obtain ⟨r, s, b, nn, rs, hs, hsb, hsl⟩ := x0
  rw [if_neg (by simp), derefK_some, fldK_some, loadK_C b]
  refine ⟨true, rfl, ?_⟩
  rw [if_pos rfl, derefK_some, fldK_some, loadK_C b]
  refine ⟨s, rfl, ?_⟩
  obtain ⟨y, hy, hyn⟩ := fresh_exists q1 [0, 1]
  simp only [List.mem_cons, List.mem_nil_iff, or_false, not_or] at hyn
  have fin : ∀ (q : GH) (a e : Sl), Mv [y] q1 q → RdC 1 q y a (drawB.map byV) → a.n ≤ a.c → RdC 1 q 0 e ((eightB n).map byV) → e.n ≤ e.c →
      newSlK q.h 3 #[(.slice a.a a.n a.c), (.slice s.a s.n s.c), (.slice e.a e.n e.c)] T.sl_uint8 (fun (v_14 : Sl) (h : Heap) =>
      callK Try.prog .agg F.digest_Of #[(.slice v_14.a v_14.n v_14.c)] (fun (v_15 : Array Value) (h : Heap) =>
      storeAggK (sizeOfT Try.prog T.api_Tag) h (some ⟨t, 0, none⟩) v_15 (fun (h : Heap) =>
      quietK Try.prog .agg (Instr.loadAt T.api_Tag (.pointer (some ⟨t, 0, none⟩))) (fun (r_16 : Array Value) =>
      R (.agg r_16) h) h)) h) := by
    intro q a e mq ra ha re he
    have mq' : Mv [] q1 (q1.via q (reOne y 0)) := mq.re _ (by intro k hk; rw [List.mem_singleton.1 hk]; exact .inr hy)
    have ra' := ra.re (φ := reOne y 0) mq (.inr hy)
    rw [reOne_self] at ra'
    have re' := re.re (φ := reOne y 0) mq (.inl (reOne_ne (Ne.symm hyn.1)))
    rw [reOne_ne (Ne.symm hyn.1)] at re'
    exact drawTail (q := q1.via q (reOne y 0)) n (b1.mv mq' (by simp)) ra' ha (rs.mv mq' (by simp)) hs hsb hsl re' he fun g' m' => H (g.via g' fun _ => 0) (((m.step mq' (by simp)).step m' (by simp)).via (by simp) _)
  have my : Mv [y] q1 q1 := Mv.refl _ _
  have still : ∀ q : GH, Mv [y] q1 q → stillK .slice q.h (some ⟨p, 0 + 2, none⟩) s := fun q mq => stillK_C (b.mv mq (by simp [Ne.symm hyn.1])) rfl
  refine ⟨?_, ?_⟩
  · refine newSl_C q1 y rfl fun s2 q2 m2 o2 hn2 hc2 => ?_
    replace my := my.step m2 (by simp)
    refine ⟨?_, ?_⟩
    · refine convRd (e := T.uint8) (by kernel_rfl) (by kernel_rfl) o2 (by simp) fun q3 m3 r3 k3 => ?_
      replace my := my.step m3 (by simp)
      refine eight_spec q3 0 n fun s4 q4 m4 o4 => ⟨_, rfl, ?_⟩
      replace my := my.step m4 (by simp)
      exact ⟨still q4 my, fin q4 s2 s4 my (r3.mv m4 (by simp)) (by omega) o4.rd o4.cap⟩
    · refine eight_spec q2 0 n fun s4 q4 m4 o4 => ⟨_, rfl, ?_⟩
      replace my := my.step m4 (by simp)
      refine ⟨still q4 my, ?_⟩
      refine convRd (e := T.uint8) (by kernel_rfl) (by kernel_rfl) (o2.mv m4 (by simp)) (by simp) fun q3 m3 r3 k3 => ?_
      replace my := my.step m3 (by simp)
      exact fin q3 s2 s4 my r3 (by omega) (k3 _ _ _ o4.rd) o4.cap
  · refine eight_spec q1 0 n fun s4 q4 m4 o4 => ⟨_, rfl, ?_⟩
    replace my := my.step m4 (by simp)
    refine ⟨still q4 my, ?_⟩
    refine newSl_C q4 y rfl fun s2 q2 m2 o2 hn2 hc2 => ?_
    replace my := my.step m2 (by simp)
    refine convRd (e := T.uint8) (by kernel_rfl) (by kernel_rfl) o2 (by simp) fun q3 m3 r3 k3 => ?_
    replace my := my.step m3 (by simp)
    exact fin q3 s2 s4 my r3 (by omega) (k3 _ _ _ (o4.rd.mv m2 (by simp))) o4.cap

end Go.Proofs.Ytgdkaljbjhbeiaa
