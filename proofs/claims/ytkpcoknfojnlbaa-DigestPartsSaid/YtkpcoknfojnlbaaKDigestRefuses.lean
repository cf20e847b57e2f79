/-
  A digest refuses what is too much, and goes on as if nothing was.
-/
import Derived.Test.YtkpcoknfojnlbaaKDigestTells
set_option linter.unusedSimpArgs false
set_option linter.unusedVariables false
namespace Go.Proofs.Ytkpcoknfojnlbaa
open Go Go.Ev

abbrev KF : List Nat := [1, 2, 3]

theorem byI {bs : List Int} (h : ∀ x ∈ bs, IntKind.u8.min ≤ x ∧ x ≤ IntKind.u8.max) : ∀ x ∈ bs, isByte x := fun x hx => h x hx
theorem oneRow {bs : List Int} (h : ∀ x ∈ bs, isByte x) : ∀ xs ∈ [bs], ∀ x ∈ xs, isByte x := fun xs hx => by simp at hx; subst hx; exact h
theorem twoRow {bs cs : List Int} (h : ∀ x ∈ bs, isByte x) (h2 : ∀ x ∈ cs, isByte x) : ∀ xs ∈ [bs, cs], ∀ x ∈ xs, isByte x := fun xs hx => by
  simp at hx
  rcases hx with rfl | rfl
  · exact h
  · exact h2

/-- The digest is as it was. -/
theorem refTail {g q : GH} {p : Nat} {b0 : Sl} {bs : List Int} (m : Mv KF g.base q) (hd : HashC q 1 2 p bs) (hr : RdC 1 q 0 b0 (bs.map byV)) (hc : b0.n ≤ b0.c) (hby : ∀ x ∈ bs, isByte x) (hl : bs.length ≤ 700) {R : Value → Heap → Prop} {J : Unit → Heap → Prop}
    (hJ : ∀ q' : GH, Mv KF g.base q' → HashC q' 1 2 p bs → J () q'.h) :
  (callK Try.prog .agg F.digest_Hasher_Tag #[(.pointer (some ⟨p, 0, none⟩))] (fun (v_22 : Array Value) (h : Heap) =>
  newSlK h 1 #[(.slice b0.a b0.n b0.c)] T.sl_uint8 (fun (v_23 : Sl) (h : Heap) =>
  callK Try.prog .agg F.digest_Of #[(.slice v_23.a v_23.n v_23.c)] (fun (v_24 : Array Value) (h : Heap) =>
  eqK Try.prog (binSem .neq T.api_Tag (.tmp 48) (.tmp 51) (.agg v_22) (.agg v_24)) (fun (v_25 : Bool) =>
  if v_25 = true then
  R (.bool false) h
  else
  callK Try.prog (.int .i64) F.digest_Hasher_Len #[(.pointer (some ⟨p, 0, none⟩))] (fun (v_26 : Int) (h : Heap) =>
  if (v_26 != ((b0.n : Int))) = true then
  R (.bool false) h
  else
  J () h) h)) h)) q.h) ∧
  (newSlK q.h 1 #[(.slice b0.a b0.n b0.c)] T.sl_uint8 (fun (v_27 : Sl) (h : Heap) =>
  callK Try.prog .agg F.digest_Hasher_Tag #[(.pointer (some ⟨p, 0, none⟩))] (fun (v_28 : Array Value) (h : Heap) =>
  callK Try.prog .agg F.digest_Of #[(.slice v_27.a v_27.n v_27.c)] (fun (v_29 : Array Value) (h : Heap) =>
  eqK Try.prog (binSem .neq T.api_Tag (.tmp 48) (.tmp 51) (.agg v_28) (.agg v_29)) (fun (v_30 : Bool) =>
  if v_30 = true then
  R (.bool false) h
  else
  callK Try.prog (.int .i64) F.digest_Hasher_Len #[(.pointer (some ⟨p, 0, none⟩))] (fun (v_31 : Int) (h : Heap) =>
  if (v_31 != ((b0.n : Int))) = true then
  R (.bool false) h
  else
  J () h) h)) h) h)) := by
  have hn := hr.len
  have hf : [bs].flatten = bs := by simp
  simp only [List.length_map] at hn
  refine ⟨?_, ?_⟩
  · refine hashTag hd (by omega) fun q1 m1 => ⟨_, rfl, ?_⟩
    replace m := m.step m1 (by simp)
    replace hd := hd.mv m1 (by simp) (by simp)
    replace hr := hr.mv m1 (by simp)
    try dsimp only
    refine newSl_C q1 0 rfl fun s2 q2 m2 o2 n2 c2 => ?_
    replace m := m.step m2 (by simp)
    replace hd := hd.mv m2 (by simp) (by simp)
    replace hr := hr.mv m2 (by simp)
    refine digestOf_spec q2 s2 [bs] (RowsC.one o2.rd hr hc) (oneRow hby) (by unfold total; rw [hf]; omega) (by simp) fun q3 m3 => ⟨_, rfl, ?_⟩
    replace m := m.step m3 (by simp)
    replace hd := hd.mv m3 (by simp) (by simp)
    try dsimp only
    refine sha_neq hf.symm ?_
    rw [if_neg (by decide)]
    refine hashLen hd ⟨_, rfl, ?_⟩
    try dsimp only
    rw [if_neg (by simp [hn])]
    exact hJ _ m hd
  · refine newSl_C q 0 rfl fun s2 q2 m2 o2 n2 c2 => ?_
    replace m := m.step m2 (by simp)
    replace hd := hd.mv m2 (by simp) (by simp)
    replace hr := hr.mv m2 (by simp)
    refine hashTag hd (by omega) fun q1 m1 => ⟨_, rfl, ?_⟩
    replace m := m.step m1 (by simp)
    replace hd := hd.mv m1 (by simp) (by simp)
    replace hr := hr.mv m1 (by simp)
    try dsimp only
    refine digestOf_spec q1 s2 [bs] (RowsC.one (o2.rd.mv m1 (by simp)) hr hc) (oneRow hby) (by unfold total; rw [hf]; omega) (by simp) fun q3 m3 => ⟨_, rfl, ?_⟩
    replace m := m.step m3 (by simp)
    replace hd := hd.mv m3 (by simp) (by simp)
    try dsimp only
    refine sha_neq hf.symm ?_
    rw [if_neg (by decide)]
    refine hashLen hd ⟨_, rfl, ?_⟩
    try dsimp only
    rw [if_neg (by simp [hn])]
    exact hJ _ m hd

theorem zeroBy (n : Nat) : List.replicate n (Value.int .u8 0) = (List.replicate n (0 : Int)).map byV := by rw [List.map_replicate]
theorem zeroIs (n : Nat) : ∀ x ∈ List.replicate n (0 : Int), isByte x := fun x hx => by rw [(List.mem_replicate.1 hx).2]; unfold isByte; omega

set_option maxHeartbeats 1000000 in
theorem DigestRefuses_spec (g : GH) {c d : Nat} (v w : Sl) (bs cs : List Int) (more : Int) (hmo : -9223372036854775808 ≤ more ∧ more ≤ 9223372036854775807) (hs : SlC g c (.int .u8) v bs) (ht : SlC g d (.int .u8) w cs) {R : Value → Heap → Prop} (H : ∀ g' : GH, Mv [] g g' → R (.bool true) g'.h) :
    HC Try.prog F.law02_DigestRefuses #[.slice v.a v.n v.c, .int .i64 more, .slice w.a w.n w.c] R g.h := by
  refine law02_DigestRefuses.calls (b0 := v) (rest2 := w) ?_
  unfold law02_DigestRefuses.body
  obtain ⟨hr, hby⟩ := hs.ints
  obtain ⟨hr2, hby2⟩ := ht.ints
  replace hby := byI hby
  replace hby2 := byI hby2
  have hn := hs.len
  have hn2 := ht.len
  have hcap := hs.cap
  have hcap2 := ht.cap
  have hsm := hs.small
  have hsm2 := ht.small
  have hf : [bs].flatten = bs := by simp
  have hf2 : [cs].flatten = cs := by simp
  have m : Mv KF g.base g.base := Mv.refl _ _
  refine awake_spec g.base fun q1 m1 => ⟨_, rfl, ?_⟩
  replace m := m.step m1 (by simp)
  try dsimp only
  rw [if_neg (by decide), wrapI64 (n := (v.n : Int) + (w.n : Int)) (by omega) (by omega)]
  rcases Nat.lt_or_ge 700 (v.n + w.n) with h7 | h7
  · rw [if_pos (by simp; omega)]
    exact H (g.via q1 fun _ => 0) (m.via (by simp) _)
  rw [if_neg (by simp; omega)]
  refine NewHash_spec q1 1 2 fun p q2 m2 hd => ⟨_, rfl, ?_⟩
  replace m := m.step m2 (by simp)
  refine newSl_C q2 0 rfl fun s3 q3 m3 o3 n3 c3 => ?_
  replace m := m.step m3 (by simp)
  replace hd := hd.mv m3 (by simp) (by simp)
  have t1 : total [bs] = bs.length := by unfold total; rw [hf]
  have t2 : total [cs] = cs.length := by unfold total; rw [hf2]
  refine hashWrite (by decide) (by decide) (by decide) hd (by decide) s3 [bs] (RowsC.one o3.rd (hr.arg m (by decide)) hcap) (oneRow hby) (by omega) (by simp) (fun _ q4 m4 d4 => ⟨_, rfl, ?_⟩) (fun h => absurd (by rw [t1]; simp; omega) h)
  rw [List.nil_append, hf] at d4
  replace m := m.step m4 (by simp)
  dsimp only
  rw [if_neg (by decide)]
  refine Pick_spec more 1000 hmo (by decide) ⟨_, rfl, ?_⟩
  try dsimp only
  obtain ⟨k, hk, hk2⟩ : ∃ k : Nat, k < 1000 ∧ more % 1000 = (k : Int) := ⟨(more % 1000).toNat, by omega, by omega⟩
  rw [hk2]
  clear hd o3
  refine joinW_intro (fun _ h' => ∃ q : GH, h' = q.h ∧ Mv KF g.base q ∧ HashC q 1 2 p bs) ?_ ?_
  · intro J hJ
    replace hJ : ∀ q' : GH, Mv KF g.base q' → HashC q' 1 2 p bs → J () q'.h := fun q' a b => hJ () _ ⟨q', rfl, a, b⟩
    have e1 : IntKind.i64.wrap (1048576 - (v.n : Int)) = ((1048576 - v.n : Nat) : Int) := by rw [wrapI64 (by omega) (by omega)]; omega
    have e2 : IntKind.i64.wrap (((1048576 - v.n : Nat) : Int) + 1) = ((1048577 - v.n : Nat) : Int) := by rw [wrapI64 (by omega) (by omega)]; omega
    have e3 : IntKind.i64.wrap (((1048577 - v.n : Nat) : Int) + (k : Int)) = ((1048577 - v.n + k : Nat) : Int) := by rw [wrapI64 (by omega) (by omega)]; omega
    have e4 : IntKind.i64.wrap (((1048577 - v.n + k : Nat) : Int) - 1) = ((1048576 - v.n + k : Nat) : Int) := by rw [wrapI64 (by omega) (by omega)]; omega
    rw [e1, e2, e3, e4]
    refine make_C (e := T.uint8) (by_ := 1) (z := .int .u8 0) (by kernel_rfl) (by kernel_rfl) rfl (by omega) q4 0 (Nat.le_refl _) (by omega) fun s5 q5 m5 o5 n5 c5 _ => ?_
    replace m := m.step m5 (by simp)
    replace d4 := d4.mv m5 (by simp) (by simp)
    refine newSl_C q5 0 rfl fun s6 q6 m6 o6 n6 c6 => ?_
    replace m := m.step m6 (by simp)
    replace d4 := d4.mv m6 (by simp) (by simp)
    rw [zeroBy] at o5
    refine hashWrite (by decide) (by decide) (by decide) d4 (by omega) s6 [List.replicate (1048577 - v.n + k) 0] (RowsC.one o6.rd (o5.rd.mv m6 (by simp)) o5.cap) (oneRow (zeroIs _)) (by simp [total]; omega) (by simp) (fun h => absurd h (by simp [total]; omega)) (fun _ => ⟨_, rfl, ?_⟩)
    dsimp only
    rw [if_neg (by decide)]
    have g2 : ∀ (q : GH) (a b e : Sl) (n : Nat), Mv KF g.base q → HashC q 1 2 p bs → n = 1048576 - v.n + k → OwnC T.uint8 1 q 0 a (List.replicate n (.int .u8 0)) → OwnC T.uint8 1 q 0 b (List.replicate 1 (.int .u8 0)) → OwnC T.sl_uint8 1 q 0 e [slV a, slV b] →
        ∀ {R' : Value → Heap → Prop}, (R' (.int .i64 3) q.h) → HC Try.prog F.digest_Hasher_Write #[.pointer (some ⟨p, 0, none⟩), .slice e.a e.n e.c] R' q.h := by
      intro q a b e n m hd hn oa ob oe R' hR
      rw [zeroBy] at oa ob
      exact hashWrite (by decide) (by decide) (by decide) hd (by omega) e [List.replicate n 0, List.replicate 1 0] (RowsC.two oe.rd oa.rd oa.cap ob.rd ob.cap) (twoRow (zeroIs _) (zeroIs _)) (by simp [total]; omega) (by simp) (fun h => absurd h (by simp [total]; omega)) (fun _ => hR)
    refine ⟨?_, ?_⟩
    · refine make_C (e := T.uint8) (by_ := 1) (z := .int .u8 0) (by kernel_rfl) (by kernel_rfl) rfl (by omega) q6 0 (Nat.le_refl _) (by omega) fun s7 q7 m7 o7 n7 c7 _ => ?_
      replace m := m.step m7 (by simp)
      replace d4 := d4.mv m7 (by simp) (by simp)
      refine make_C (l := 1) (k := 1) (e := T.uint8) (by_ := 1) (z := .int .u8 0) (by kernel_rfl) (by kernel_rfl) rfl (by omega) q7 0 (Nat.le_refl _) (by omega) fun s8 q8 m8 o8 n8 c8 _ => ?_
      replace m := m.step m8 (by simp)
      replace d4 := d4.mv m8 (by simp) (by simp)
      refine newSl_C q8 0 rfl fun s9 q9 m9 o9 n9 c9 => ?_
      replace m := m.step m9 (by simp)
      replace d4 := d4.mv m9 (by simp) (by simp)
      refine g2 q9 s7 s8 s9 _ m d4 rfl ((o7.mv m8 (by simp)).mv m9 (by simp)) (o8.mv m9 (by simp)) o9 ⟨_, rfl, ?_⟩
      dsimp only
      rw [if_neg (by decide)]
      exact refTail m d4 (hr.arg m (by decide)) hcap hby (by omega) hJ
    · refine make_C (l := 1) (k := 1) (e := T.uint8) (by_ := 1) (z := .int .u8 0) (by kernel_rfl) (by kernel_rfl) rfl (by omega) q6 0 (Nat.le_refl _) (by omega) fun s8 q8 m8 o8 n8 c8 _ => ?_
      replace m := m.step m8 (by simp)
      replace d4 := d4.mv m8 (by simp) (by simp)
      refine make_C (e := T.uint8) (by_ := 1) (z := .int .u8 0) (by kernel_rfl) (by kernel_rfl) rfl (by omega) q8 0 (Nat.le_refl _) (by omega) fun s7 q7 m7 o7 n7 c7 _ => ?_
      replace m := m.step m7 (by simp)
      replace d4 := d4.mv m7 (by simp) (by simp)
      refine newSl_C q7 0 rfl fun s9 q9 m9 o9 n9 c9 => ?_
      replace m := m.step m9 (by simp)
      replace d4 := d4.mv m9 (by simp) (by simp)
      refine g2 q9 s7 s8 s9 _ m d4 rfl (o7.mv m9 (by simp)) ((o8.mv m7 (by simp)).mv m9 (by simp)) o9 ⟨_, rfl, ?_⟩
      dsimp only
      rw [if_neg (by decide)]
      exact refTail m d4 (hr.arg m (by decide)) hcap hby (by omega) hJ
  · rintro _ _ ⟨q, rfl, m, hd⟩
    refine newSl_C q 0 rfl fun s3 q3 m3 o3 n3 c3 => ?_
    replace m := m.step m3 (by simp)
    replace hd := hd.mv m3 (by simp) (by simp)
    refine hashWrite (by decide) (by decide) (by decide) hd (by omega) s3 [cs] (RowsC.one o3.rd (hr2.arg m (by decide)) hcap2) (oneRow hby2) (by omega) (by simp) (fun _ q4 m4 d4 => ⟨_, rfl, ?_⟩) (fun h => absurd (by omega) h)
    replace m := m.step m4 (by simp)
    dsimp only
    rw [if_pos (by decide)]
    refine hashTag d4 (by simp; omega) fun q5 m5 => ⟨_, rfl, ?_⟩
    replace m := m.step m5 (by simp)
    replace d4 := d4.mv m5 (by simp) (by simp)
    try dsimp only
    refine newSl_C q5 0 rfl fun s6 q6 m6 o6 n6 c6 => ?_
    replace m := m.step m6 (by simp)
    replace d4 := d4.mv m6 (by simp) (by simp)
    refine digestOf_spec q6 s6 [bs, cs] (RowsC.two o6.rd (hr.arg m (by decide)) hcap (hr2.arg m (by decide)) hcap2) (twoRow hby hby2) (by simp [total]; omega) (by simp) fun q7 m7 => ⟨_, rfl, ?_⟩
    replace m := m.step m7 (by simp)
    replace d4 := d4.mv m7 (by simp) (by simp)
    try dsimp only
    refine sha_eq (by simp) ?_
    rw [if_pos rfl]
    refine hashLen d4 ⟨_, rfl, ?_⟩
    have : ((((bs ++ [cs].flatten).length : Nat) : Int) == (v.n : Int) + (w.n : Int)) = true := by simp [hn, hn2]
    show R (.bool (_ == _)) _
    rw [this]
    exact H (g.via q7 fun _ => 0) (m.via (by simp) _)

theorem DigestRefuses_walk {h : Heap} (a : Option Addr) (la ca : Nat) (x : List Int) (w : Lay h (.sl (.int .u8)) x [.slice a la ca]) (n : Int) (hn : (Lit.int .i64 n).wf = true) (b : Option Addr) (lb cb : Nat) (y : List Int) (w' : Lay h (.sl (.int .u8)) y [.slice b lb cb]) :
    HC Try.prog F.law02_DigestRefuses #[.slice a la ca, .int .i64 n, .slice b lb cb] (fun v h' => v = .bool true ∧ Ext h h') h :=
  DigestRefuses_spec ⟨h, fun _ => 0⟩ ⟨a, la, ca⟩ ⟨b, lb, cb⟩ x y n (wf_i64 hn) (c := 0) (d := 0) (w.arg (Mv.refl [] _) (by simp)) (w'.arg (Mv.refl [] _) (by simp)) fun g' m => ⟨rfl, m.ext (by simp)⟩

end Go.Proofs.Ytkpcoknfojnlbaa
