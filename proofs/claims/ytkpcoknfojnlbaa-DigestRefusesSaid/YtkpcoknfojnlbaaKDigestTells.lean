/-
  The digest tells: row by row, and at once.
-/
import Derived.Test.YtkpcoknfojnlbaaKLaw02
set_option linter.unusedSimpArgs false
set_option linter.unusedVariables false
namespace Go.Proofs.Ytkpcoknfojnlbaa
open Go Go.Ev

/-- The colours that the walk writes. -/
abbrev KT : List Nat := [1, 2, 3, 4, 10, 11, 12, 13, 14, 15, 16, 17, 18, 19, 20, 21, 22]

theorem byOf {xss : List (List Int)} (h : ∀ xs ∈ xss, ∀ x ∈ xs, 0 ≤ x ∧ x ≤ 255) : ∀ x ∈ xss.flatten, isByte x := by
  intro x hx
  obtain ⟨xs, h1, h2⟩ := List.mem_flatten.1 hx
  exact h xs h1 x h2
theorem total_mem {xss : List (List Int)} {xs : List Int} (h : xs ∈ xss) : xs.length ≤ total xss := by
  unfold total
  rw [List.length_flatten]
  exact le_of_mem_sum (List.mem_map.2 ⟨xs, h, rfl⟩)

set_option maxHeartbeats 1000000 in
theorem DigestTells_spec (g : GH) {c : Nat} (v : Sl) (xss : List (List Int)) (hs : SlC g c (.sl (.int .u8)) v xss) {R : Value → Heap → Prop} (H : ∀ g' : GH, Mv [] g g' → R (.bool true) g'.h) : HC Try.prog F.law02_DigestTells #[.slice v.a v.n v.c] R g.h := by
  refine law02_DigestTells.calls (rows0 := v) ?_
  unfold law02_DigestTells.body
  obtain ⟨hr, hby, hxl⟩ := hs.rows
  have hn := hs.len
  have hcap := hs.cap
  refine size_spec v xss hr hxl hs.small fun n hsz => ⟨_, rfl, ?_⟩
  rcases Nat.lt_or_ge 700 n with h7 | h7
  · rw [if_pos (by simp; omega)]
    exact awake_spec g fun g' m => ⟨_, rfl, H g' m⟩
  rw [if_neg (by simp; omega)]
  rcases Nat.lt_or_ge 12 xss.length with h12 | h12
  · rw [if_pos (by simp; omega)]
    exact awake_spec g fun g' m => ⟨_, rfl, H g' m⟩
  rw [if_neg (by simp; omega)]
  have ht := hsz h7
  have ht' : xss.flatten.length ≤ 700 := ht
  have m : Mv KT g.base g.base := Mv.refl _ _
  refine NewHash_spec g.base 1 2 fun p q1 m1 d1 => ⟨_, rfl, ?_⟩
  replace m := m.step m1 (by simp)
  refine loopW_rule (fun st h' => ∃ (i : Nat) (s : Sl) (sls : List Sl) (q : GH), i ≤ xss.length ∧ st = (s, (i : Int)) ∧ h' = q.h ∧ Mv KT g.base q ∧ HashC q 1 2 p (xss.take i).flatten ∧ OwnC T.sl_uint8 1 q 3 s (sls.map slV) ∧ sls.length = i ∧
      ∀ (k : Nat) (sl : Sl) (xs : List Int), sls[k]? = some sl → xss[k]? = some xs → LentBytesC q (10 + k) sl xs) (fun st => xss.length - st.2.toNat)
    ⟨0, ⟨none, 0, 0⟩, [], q1, by omega, rfl, rfl, m, d1, OwnC.nil _ _ _ _, rfl, by simp⟩ ?_
  clear m d1 m1
  rintro X _ _ ⟨i, s, sls, q, hi, rfl, rfl, m, hd, ho, hl, hall⟩ hX
  dsimp only
  by_cases hlt : i < xss.length
  · rw [if_pos (by simp; omega)]
    have hxi := total_mem (List.getElem_mem hlt)
    have hKi : (10 + i) ∈ KT := by simp; omega
    have hpl : v.plain := hr.plain (by intro e; subst e; simp at hlt)
    have hone : total [xss[i]] = xss[i].length := by simp [total]
    refine (hr.arg m (by decide)).idx (by kernel_rfl) hlt fun s1 r1 c1 => ?_
    refine LentBytes_C q (10 + i) s1 _ r1.rd (by omega) fun s2 q2 m2 l2 => ⟨_, rfl, ?_⟩
    replace m := m.step m2 (by simp)
    replace hd := hd.mv m2 (by simp) (by simp)
    replace ho := ho.mv m2 (by simp)
    replace hall := fun k sl xs a b => (hall k sl xs a b).mv m2 (by simp)
    try dsimp only
    refine newSl_C q2 4 rfl fun s3 q3 m3 o3 hn3 c3 => ?_
    replace m := m.step m3 (by simp)
    replace hd := hd.mv m3 (by simp) (by simp)
    replace ho := ho.mv m3 (by simp)
    replace hall := fun k sl xs a b => (hall k sl xs a b).mv m3 (by simp)
    replace l2 := l2.mv m3 (by simp)
    refine append_C (e := T.sl_uint8) (e2 := T.sl_uint8) (sz := 1) (by_ := 24) (z := .slice none 0 0) (by kernel_rfl) (by kernel_rfl) (by kernel_rfl) rfl (by omega) ho o3.rd.rd (by simp [Value.oneCell']) (by have := ho.len; simp at this; omega) fun s4 q4 m4 o4 hn4 _ => ?_
    replace m := m.step m4 (by simp)
    replace hd := hd.mv m4 (by simp) (by simp)
    replace hall := fun k sl xs a b => (hall k sl xs a b).mv m4 (by simp; omega)
    replace l2 := l2.mv m4 (by simp; omega)
    have hsl : (sls.map slV ++ [slV s2])[i]? = some (Kd.inj .slice s2) := by rw [List.getElem?_append_right (by simp [hl])]; simp [hl]; rfl
    refine idxLoadN o4.rd.rd (by kernel_rfl) (k := .slice) s2 hsl ?_
    refine newSl_C q4 (10 + i) rfl fun s5 q5 m5 o5 hn5 c5 => ?_
    replace m := m.step m5 (by simp)
    replace hd := hd.mv m5 (by simp) (by simp)
    replace o4 := o4.mv m5 (by simp)
    replace hall := fun k sl xs a b => (hall k sl xs a b).mv m5 (by simp)
    replace l2 := l2.mv m5 (by simp)
    have hfl : ((xss.take i).flatten ++ [xss[i]].flatten) = (xss.take (i + 1)).flatten := by rw [List.take_succ_eq_append_getElem hlt, List.flatten_append]
    have htl := total_le (xss := xss) i
    have htl1 := total_le (xss := xss) (i + 1)
    unfold total at htl htl1
    have hxi' : xss[i].length ≤ 700 := by omega
    refine hashWrite (by decide) (c := 10 + i) (by omega) (by omega) hd (by omega) s5 [xss[i]] (RowsC.one o5.rd l2.rd l2.cap) (fun xs hx => by simp at hx; subst hx; exact fun x h => hby _ (List.getElem_mem hlt) x h) (by omega) (by simp) (fun _ q6 m6 d6 => ⟨_, rfl, ?_⟩) (fun h => absurd (by omega) h)
    rw [hfl] at d6
    replace m := m.step m6 (by simp)
    replace o4 := o4.mv m6 (by simp)
    replace hall := fun k sl xs a b => (hall k sl xs a b).mv m6 (by simp; omega)
    replace l2 := l2.mv m6 (by simp; omega)
    dsimp only
    rw [if_neg (by decide)]
    rw [wrapSucc (by omega)]
    refine slice_to (n := i + 1) hpl (by omega) (by omega) ?_
    refine hashTag d6 (by omega) fun q7 m7 => ⟨_, rfl, ?_⟩
    replace m := m.step m7 (by simp)
    replace d6 := d6.mv m7 (by simp) (by simp)
    replace o4 := o4.mv m7 (by simp)
    replace hall := fun k sl xs a b => (hall k sl xs a b).mv m7 (by simp)
    replace l2 := l2.mv m7 (by simp)
    try dsimp only
    refine Join02_spec q7 4 ⟨v.a, i + 1, v.c⟩ (xss.take (i + 1)) ((hr.arg m (by decide)).take (by omega)) (by unfold total; omega) (by simp; omega) fun s8 q8 m8 o8 => ⟨_, rfl, ?_⟩
    replace m := m.step m8 (by simp)
    replace d6 := d6.mv m8 (by simp) (by simp)
    replace o4 := o4.mv m8 (by simp)
    replace hall := fun k sl xs a b => (hall k sl xs a b).mv m8 (by simp)
    replace l2 := l2.mv m8 (by simp)
    try dsimp only
    have hb8 : ∀ x ∈ (xss.take (i + 1)).flatten, isByte x := byOf fun xs h => hby xs (List.mem_of_mem_take h)
    refine refOf_spec q8 s8 _ o8.rd (by omega) hb8 fun q9 m9 => ⟨_, rfl, ?_⟩
    replace m := m.step m9 (by simp)
    replace d6 := d6.mv m9 (by simp) (by simp)
    replace o4 := o4.mv m9 (by simp)
    replace hall := fun k sl xs a b => (hall k sl xs a b).mv m9 (by simp)
    replace l2 := l2.mv m9 (by simp)
    try dsimp only
    refine sha_neq rfl ?_
    rw [if_neg (by decide)]
    refine slice_to (n := i + 1) hpl (by omega) (by omega) ?_
    refine hashLen d6 ⟨_, rfl, ?_⟩
    refine Join02_spec q9 4 ⟨v.a, i + 1, v.c⟩ (xss.take (i + 1)) ((hr.arg m (by decide)).take (by omega)) (by unfold total; omega) (by simp; omega) fun s10 q10 m10 o10 => ⟨_, rfl, ?_⟩
    replace m := m.step m10 (by simp)
    replace d6 := d6.mv m10 (by simp) (by simp)
    replace o4 := o4.mv m10 (by simp)
    replace hall := fun k sl xs a b => (hall k sl xs a b).mv m10 (by simp)
    replace l2 := l2.mv m10 (by simp)
    have h10 := o10.len
    simp only [List.length_map] at h10
    try dsimp only
    rw [if_neg (by simp [h10])]
    refine hX _ _ ⟨i + 1, s4, sls ++ [s2], q10, by omega, by simp, rfl, m, d6, by simpa using o4, by simp [hl], ?_⟩ (by simp; omega)
    intro k sl xs hk hx
    by_cases hki : k < sls.length
    · rw [List.getElem?_append_left hki] at hk
      exact hall k sl xs hk hx
    · have : k = i := by have := (List.getElem?_eq_some_iff.1 hk).1; simp at this; omega
      subst this
      rw [List.getElem?_append_right (by omega), show k - sls.length = 0 from by omega] at hk
      simp at hk
      subst hk
      obtain ⟨_, rfl⟩ := List.getElem?_eq_some_iff.1 hx
      exact l2
  · rw [if_neg (by simp; omega)]
    clear hX
    have hi' : i = xss.length := by omega
    subst hi'
    rw [List.take_length] at hd
    have hbf : ∀ x ∈ xss.flatten, isByte x := byOf hby
    have htf : xss.flatten.length ≤ 700 := ht
    have hrow : RowsC q.base 0 s xss := .of ho.rd.base hl fun k sl xs a b => ⟨(hall k sl xs a b).rd.base, (hall k sl xs a b).cap⟩
    refine digestOf_spec q.base s xss hrow (fun xs h x hx => hby xs h x hx) (by omega) (by omega) fun q1 m1 => ⟨_, rfl, ?_⟩
    have m2 := m1.via (g := q) (by simp) fun _ => 0
    change callK Try.prog .slice F.ref02_Join _ _ (q.via q1 fun _ => 0).h
    generalize (q.via q1 fun _ => 0) = q2 at m2
    replace m := m.step m2 (by simp)
    replace hd := hd.mv m2 (by simp) (by simp)
    replace ho := ho.mv m2 (by simp)
    replace hall := fun k sl xs a b => (hall k sl xs a b).mv m2 (by simp)
    clear hrow m1 m2
    refine Join02_spec q2 4 v xss (hr.arg m (by decide)) (by omega) (by omega) fun s3 q3 m3 o3 => ⟨_, rfl, ?_⟩
    replace m := m.step m3 (by simp)
    replace hd := hd.mv m3 (by simp) (by simp)
    replace ho := ho.mv m3 (by simp)
    replace hall := fun k sl xs a b => (hall k sl xs a b).mv m3 (by simp)
    try dsimp only
    refine refOf_spec q3 s3 _ o3.rd (by omega) hbf fun q4 m4 => ⟨_, rfl, ?_⟩
    replace m := m.step m4 (by simp)
    replace hd := hd.mv m4 (by simp) (by simp)
    replace ho := ho.mv m4 (by simp)
    replace hall := fun k sl xs a b => (hall k sl xs a b).mv m4 (by simp)
    clear m3 m4 o3
    try dsimp only
    refine sha_neq rfl ?_
    rw [if_neg (by decide)]
    refine loopW_rule (fun st h' => ∃ (i : Nat) (q : GH), i ≤ xss.length ∧ st = (i : Int) ∧ h' = q.h ∧ Mv KT g.base q ∧ HashC q 1 2 p xss.flatten ∧ OwnC T.sl_uint8 1 q 3 s (sls.map slV) ∧
      ∀ (k : Nat) (sl : Sl) (xs : List Int), i ≤ k → sls[k]? = some sl → xss[k]? = some xs → LentBytesC q (10 + k) sl xs) (fun st => xss.length - st.toNat)
      ⟨0, q4, by omega, rfl, rfl, m, hd, ho, fun k sl xs _ a b => hall k sl xs a b⟩ ?_
    clear m hd ho hall
    rintro Y _ _ ⟨i, q, hi, rfl, rfl, m, hd, ho, hall⟩ hY
    by_cases hlt : i < xss.length
    · rw [if_pos (by simp; omega)]
      have hli : i < sls.length := by omega
      have hxi := total_mem (List.getElem_mem hlt)
      have hsl : (sls.map slV)[i]? = some (Kd.inj .slice sls[i]) := by rw [List.getElem?_map, List.getElem?_eq_getElem hli]; rfl
      have hlent := hall i _ _ (Nat.le_refl _) (List.getElem?_eq_getElem hli) (List.getElem?_eq_getElem hlt)
      refine idxLoadN ho.rd.rd (by kernel_rfl) (k := .slice) _ hsl ?_
      refine (hr.arg m (by decide)).idx (by kernel_rfl) hlt fun s1 r1 c1 => ?_
      refine ⟨_, KeptBytes_spec _ s1 _ hlent.lent r1.rd (by omega) ⟨rfl, rfl⟩, ?_⟩
      dsimp only
      rw [if_neg (by simp)]
      refine idxLoadN ho.rd.rd (by kernel_rfl) (k := .slice) _ hsl ?_
      have hln := hlent.len
      refine OverBytes_C hlent.own (by omega) fun q5 m5 => ⟨(), rfl, ?_⟩
      have hKi : (10 + i) ∈ KT := by simp; omega
      rw [wrapSucc (by omega)]
      refine hY _ _ ⟨i + 1, q5, by omega, by simp, rfl, m.step m5 (by simp; omega), hd.mv m5 (by simp; omega) (by simp; omega), ho.mv m5 (by simp; omega), fun k sl xs hk a b => (hall k sl xs (by omega) a b).mv m5 (by simp; omega)⟩ (by simp; omega)
    · rw [if_neg (by simp; omega)]
      refine hashTag hd (by omega) fun q5 m5 => ⟨_, rfl, ?_⟩
      replace m := m.step m5 (by simp)
      try dsimp only
      refine Join02_spec q5 4 v xss (hr.arg m (by decide)) (by omega) (by omega) fun s6 q6 m6 o6 => ⟨_, rfl, ?_⟩
      replace m := m.step m6 (by simp)
      try dsimp only
      refine refOf_spec q6 s6 _ o6.rd (by omega) hbf fun q7 m7 => ⟨_, rfl, ?_⟩
      replace m := m.step m7 (by simp)
      try dsimp only
      refine sha_eq rfl ?_
      rw [if_pos rfl]
      refine awake_spec q7 fun q8 m8 => ⟨_, rfl, ?_⟩
      replace m := m.step m8 (by simp)
      exact H (g.via q8 fun _ => 0) (m.via (by simp) _)

theorem DigestTells_walk {h : Heap} (a : Option Addr) (len cap : Nat) (x : List (List Int)) (w : Lay h (.sl (.sl (.int .u8))) x [.slice a len cap]) :
    HC Try.prog F.law02_DigestTells #[.slice a len cap] (fun v h' => v = .bool true ∧ Ext h h') h :=
  DigestTells_spec ⟨h, fun _ => 0⟩ ⟨a, len, cap⟩ x (c := 0) (w.arg (Mv.refl [] _) (by simp)) fun g' m => ⟨rfl, m.ext (by simp)⟩

end Go.Proofs.Ytkpcoknfojnlbaa
