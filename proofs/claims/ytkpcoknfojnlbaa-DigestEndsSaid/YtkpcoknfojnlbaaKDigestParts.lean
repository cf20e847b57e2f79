/-
  However a text is cut, its digest is the same.
-/
import Derived.Test.YtkpcoknfojnlbaaKDigestRefuses
set_option linter.unusedSimpArgs false
set_option linter.unusedVariables false
namespace Go.Proofs.Ytkpcoknfojnlbaa
open Go Go.Ev

theorem loadAgg_whole {g : GH} {c b n : Nat} {cells : Array Value} {e : TypeId} (hb : BlkC g c b cells e) (hn : n = cells.size) {K : Array Value → Prop} (hK : K cells) : loadAggK n g.h (some ⟨b, 0, none⟩) K := by
  rw [loadAggK_C hb]
  refine ⟨by omega, ?_⟩
  have : cells.extract 0 (0 + n) = cells := by subst hn; simp
  rw [this]; exact hK
theorem stillAgg_whole {g : GH} {c b n : Nat} {cells : Array Value} {e : TypeId} (hb : BlkC g c b cells e) (hn : n = cells.size) : stillAggK n g.h (some ⟨b, 0, none⟩) cells := loadAgg_whole hb hn rfl

/-- A tag and the digest of a row of bytes, in either order. -/
theorem tagCmp {q : GH} {kp kl p d : Nat} {b0 : Sl} {xs bs : List Int} {t1 t2 : Operand} (hd : HashC q kp kl p bs) (hr : RdC 1 q d b0 (xs.map byV)) (hc : b0.n ≤ b0.c) (hby : ∀ x ∈ xs, isByte x) (he : bs = xs) (hl : bs.length ≤ 10000000) {B J : Heap → Prop}
    (hJ : ∀ q' : GH, Mv [] q q' → J q'.h) :
  (callK Try.prog .agg F.digest_Hasher_Tag #[(.pointer (some ⟨p, 0, none⟩))] (fun (v_22 : Array Value) (h : Heap) =>
  newSlK h 1 #[(.slice b0.a b0.n b0.c)] T.sl_uint8 (fun (v_23 : Sl) (h : Heap) =>
  callK Try.prog .agg F.digest_Of #[(.slice v_23.a v_23.n v_23.c)] (fun (v_24 : Array Value) (h : Heap) =>
  eqK Try.prog (binSem .neq T.api_Tag t1 t2 (.agg v_22) (.agg v_24)) (fun (v_25 : Bool) =>
  if v_25 = true then B h else J h)) h)) q.h) ∧
  (newSlK q.h 1 #[(.slice b0.a b0.n b0.c)] T.sl_uint8 (fun (v_27 : Sl) (h : Heap) =>
  callK Try.prog .agg F.digest_Hasher_Tag #[(.pointer (some ⟨p, 0, none⟩))] (fun (v_28 : Array Value) (h : Heap) =>
  callK Try.prog .agg F.digest_Of #[(.slice v_27.a v_27.n v_27.c)] (fun (v_29 : Array Value) (h : Heap) =>
  eqK Try.prog (binSem .neq T.api_Tag t1 t2 (.agg v_28) (.agg v_29)) (fun (v_30 : Bool) =>
  if v_30 = true then B h else J h)) h) h)) := by
  subst he
  have hf : [bs].flatten = bs := by simp
  refine ⟨?_, ?_⟩
  · refine hashTag hd (by omega) fun q1 m1 => ⟨_, rfl, ?_⟩
    replace hr := hr.mv m1 (by simp)
    try dsimp only
    refine newSl_C q1 d rfl fun s2 q2 m2 o2 n2 c2 => ?_
    replace hr := hr.mv m2 (by simp)
    refine digestOf_spec q2 s2 [bs] (RowsC.one o2.rd hr hc) (oneRow hby) (by unfold total; rw [hf]; omega) (by simp) fun q3 m3 => ⟨_, rfl, ?_⟩
    try dsimp only
    refine sha_neq hf.symm ?_
    rw [if_neg (by decide)]
    exact hJ q3 ((m1.trans m2).trans m3)
  · refine newSl_C q d rfl fun s2 q2 m2 o2 n2 c2 => ?_
    replace hd := hd.mv m2 (by simp) (by simp)
    replace hr := hr.mv m2 (by simp)
    refine hashTag hd (by omega) fun q1 m1 => ⟨_, rfl, ?_⟩
    replace hr := hr.mv m1 (by simp)
    try dsimp only
    refine digestOf_spec q1 s2 [bs] (RowsC.one (o2.rd.mv m1 (by simp)) hr hc) (oneRow hby) (by unfold total; rw [hf]; omega) (by simp) fun q3 m3 => ⟨_, rfl, ?_⟩
    try dsimp only
    refine sha_neq hf.symm ?_
    rw [if_neg (by decide)]
    exact hJ q3 ((m2.trans m1).trans m3)

theorem slice_upto {s : Sl} {i : Int} {n sz : Nat} {K : Sl → Prop} (hi : i = (n : Int)) (hn : n ≤ s.c) (hK : K ⟨if s.c = 0 then s.a else s.a.map (·.add (0 * sz)), n - 0, s.c - 0⟩) : sliceK s none (some i) none sz K :=
  ⟨0, n, s.c, rfl, ⟨hi, hn⟩, rfl, hK⟩

abbrev KP : List Nat := [1, 2, 3, 4, 5, 6]

theorem mulRow (n : Nat) (xs : List Int) : ((List.replicate n xs).flatten ++ [xs].flatten) = (List.replicate (n + 1) xs).flatten := by
  rw [List.replicate_succ', List.flatten_append]
theorem mulLen (n : Nat) (xs : List Int) : ((List.replicate n xs).flatten).length = n * xs.length := by
  induction n with
  | zero => simp
  | succ n ih => rw [List.replicate_succ, List.flatten_cons, List.length_append, ih, Nat.succ_mul, Nat.add_comm]

set_option maxHeartbeats 2000000 in
theorem DigestParts_spec (g : GH) {c d e : Nat} (v u w : Sl) (bs us cs : List Int) (hs : SlC g c (.int .u8) v bs) (hu : SlC g e (.int .i64) u us) (ht : SlC g d (.int .u8) w cs) {R : Value → Heap → Prop} (H : ∀ g' : GH, Mv [] g g' → R (.bool true) g'.h) :
    HC Try.prog F.law02_DigestParts #[.slice v.a v.n v.c, .slice u.a u.n u.c, .slice w.a w.n w.c] R g.h := by
  refine law02_DigestParts.calls (b0 := v) (cuts1 := u) (other2 := w) ?_
  unfold law02_DigestParts.body
  obtain ⟨hr, hby⟩ := hs.ints
  obtain ⟨hr2, hby2⟩ := ht.ints
  obtain ⟨hru, hbu⟩ := hu.ints
  replace hby := byI hby
  replace hby2 := byI hby2
  have hn := hs.len
  have hn2 := ht.len
  have hnu := hu.len
  have hcap := hs.cap
  have hcap2 := ht.cap
  have hsm := hs.small
  have hsm2 := ht.small
  have hf : [bs].flatten = bs := by simp
  have hf2 : [cs].flatten = cs := by simp
  have t1 : total [bs] = bs.length := by unfold total; rw [hf]
  have t2 : total [cs] = cs.length := by unfold total; rw [hf2]
  have m : Mv KP g.base g.base := Mv.refl _ _
  refine awake_spec g.base fun q1 m1 => ⟨_, rfl, ?_⟩
  replace m := m.step m1 (by simp)
  try dsimp only
  rw [if_neg (by decide), wrapI64 (n := (v.n : Int) + (w.n : Int)) (by omega) (by omega)]
  rcases Nat.lt_or_ge 700 (v.n + w.n) with h7 | h7
  · rw [if_pos (by simp; omega)]
    exact H (g.via q1 fun _ => 0) (m.via (by simp) _)
  rw [if_neg (by simp; omega)]
  rcases Nat.lt_or_ge 9 u.n with h9 | h9
  · rw [if_pos (by simp; omega)]
    exact H (g.via q1 fun _ => 0) (m.via (by simp) _)
  rw [if_neg (by simp; omega)]
  refine NewHash_spec q1 1 2 fun p q2 m2 hd => ⟨_, rfl, ?_⟩
  replace m := m.step m2 (by simp)
  refine NewHash_spec q2 3 4 fun p2 q3 m3 he => ⟨_, rfl, ?_⟩
  replace m := m.step m3 (by simp)
  replace hd := hd.mv m3 (by simp) (by simp)
  refine newSl_C q3 0 rfl fun s4 q4 m4 o4 n4 c4 => ?_
  replace m := m.step m4 (by simp)
  replace hd := hd.mv m4 (by simp) (by simp)
  replace he := he.mv m4 (by simp) (by simp)
  refine digestOf_spec q4 s4 [bs] (RowsC.one o4.rd (hr.arg m (by decide)) hcap) (oneRow hby) (by omega) (by simp) fun q5 m5 => ⟨_, rfl, ?_⟩
  rw [hf]
  replace m := m.step m5 (by simp)
  replace hd := hd.mv m5 (by simp) (by simp)
  replace he := he.mv m5 (by simp) (by simp)
  try dsimp only
  rw [zTag]
  refine new_C q5 6 fun t q6 m6 b6 => ?_
  replace m := m.step m6 (by simp)
  replace hd := hd.mv m6 (by simp) (by simp)
  replace he := he.mv m6 (by simp) (by simp)
  have hts : (tagA (shaB bs)).size = 32 := by simp [shaB_length]
  refine storeAgg_C b6 (by rw [szTag, hts]) (by rw [szTag]; simp) (fun v hv => oneBy _ v hv) fun q7 m7 b7 => ?_
  rw [overA_all (by simp [shaB_length])] at b7
  replace m := m.step m7 (by simp)
  replace hd := hd.mv m7 (by simp) (by simp)
  replace he := he.mv m7 (by simp) (by simp)
  clear o4 m1 m2 m3 m4 m5 m6 m7 b6
  refine loopW_rule (fun st h' => ∃ (i f : Nat) (s : Sl) (sls : List Sl) (xss : List (List Int)) (q : GH), i ≤ us.length ∧ f ≤ bs.length ∧ st = (s, (f : Int), (i : Int)) ∧ h' = q.h ∧ Mv KP g.base q ∧ HashC q 1 2 p (bs.take f) ∧ HashC q 3 4 p2 (List.replicate i cs).flatten ∧ BlkC q 6 t (tagA (shaB bs)) T.api_Tag ∧
      OwnC T.sl_uint8 1 q 5 s (sls.map slV) ∧ sls.length = i ∧ xss.length = i ∧ xss.flatten = bs.take f ∧ ∀ (k : Nat) (sl : Sl) (xs : List Int), sls[k]? = some sl → xss[k]? = some xs → RdC 1 q 0 sl (xs.map byV) ∧ sl.n ≤ sl.c) (fun st => us.length - st.2.2.toNat)
    ⟨0, 0, ⟨none, 0, 0⟩, [], [], q7, by omega, by omega, rfl, rfl, m, by simpa using hd, by simpa using he, b7, OwnC.nil _ _ _ _, rfl, rfl, by simp, by simp⟩ ?_
  clear m hd he b7
  rintro X _ _ ⟨i, f, s, sls, xss, q, hi, hfl, rfl, rfl, m, hd, he, hb, ho, hl, hl2, hfx, hall⟩ hX
  dsimp only
  have hol := ho.len
  simp only [List.length_map] at hol
  by_cases hlt : i < us.length
  · rw [if_pos (by simp; omega)]
    have hbi := hbu _ (List.getElem_mem hlt)
    refine idxLoadN (hru.arg m (by decide)).rd (by kernel_rfl) (k := .int .i64) us[i] (by rw [List.getElem?_map, List.getElem?_eq_getElem hlt]; rfl) ?_
    have e1 : IntKind.i64.wrap ((v.n : Int) - (f : Int)) = ((v.n - f : Nat) : Int) := by rw [wrapI64 (by omega) (by omega)]; omega
    have e2 : IntKind.i64.wrap (((v.n - f : Nat) : Int) + 1) = ((v.n - f + 1 : Nat) : Int) := by rw [wrapI64 (by omega) (by omega)]; omega
    rw [e1, e2]
    refine Pick_spec us[i] _ hbi (by omega) ⟨_, rfl, ?_⟩
    obtain ⟨k, hk, hk2⟩ : ∃ k : Nat, k ≤ v.n - f ∧ us[i] % ((v.n - f + 1 : Nat) : Int) = (k : Int) := by
      have h1 := Int.emod_nonneg us[i] (show ((v.n - f + 1 : Nat) : Int) ≠ 0 by omega)
      have h2 := Int.emod_lt_of_pos us[i] (show (0 : Int) < ((v.n - f + 1 : Nat) : Int) by omega)
      exact ⟨(us[i] % ((v.n - f + 1 : Nat) : Int)).toNat, by omega, by omega⟩
    rw [hk2]
    try dsimp only
    have e3 : IntKind.i64.wrap ((f : Int) + (k : Int)) = ((f + k : Nat) : Int) := by rw [wrapI64 (by omega) (by omega)]; omega
    rw [e3, wrapSucc (by omega)]
    refine slice_mid (l := f) (h := f + k) rfl rfl (by omega) (by omega) ?_
    refine newSl_C q 0 rfl fun s1 q1 m1 o1 n1 c1 => ?_
    replace m := m.step m1 (by simp)
    replace hd := hd.mv m1 (by simp) (by simp)
    replace he := he.mv m1 (by simp) (by simp)
    replace hb := hb.mv m1 (by simp)
    replace ho := ho.mv m1 (by simp)
    replace hall := fun k sl xs a b => And.intro ((hall k sl xs a b).1.mv m1 (by simp)) (hall k sl xs a b).2
    refine append_C (e := T.sl_uint8) (e2 := T.sl_uint8) (sz := 1) (by_ := 24) (z := .slice none 0 0) (by kernel_rfl) (by kernel_rfl) (by kernel_rfl) rfl (by omega) ho o1.rd.rd (by simp [Value.oneCell']) (by omega) fun s2 q2 m2 o2 hn2 _ => ?_
    replace m := m.step m2 (by simp)
    replace hd := hd.mv m2 (by simp) (by simp)
    replace he := he.mv m2 (by simp) (by simp)
    replace hb := hb.mv m2 (by simp)
    replace hall := fun k sl xs a b => And.intro ((hall k sl xs a b).1.mv m2 (by simp)) (hall k sl xs a b).2
    refine slice_mid (l := f) (h := f + k) rfl rfl (by omega) (by omega) ?_
    generalize hv1 : (⟨if v.c = f then v.a else v.a.map (·.add (f * sizeOfT Try.prog T.uint8)), f + k - f, v.c - f⟩ : Sl) = v1 at *
    have hc1 : v1.n ≤ v1.c := by rw [← hv1]; show f + k - f ≤ v.c - f; omega
    have hpc : ∀ q : GH, Mv KP g.base q → RdC 1 q 0 v1 (((bs.drop f).take k).map byV) := by
      intro q m
      have := (hr.arg m (by decide)).mid (sz := sizeOfT Try.prog T.uint8) (by kernel_rfl) (show f ≤ f + k by omega) (by simp; omega) hcap
      rw [← List.map_drop, ← List.map_take, hv1, show f + k - f = k by omega] at this
      exact this
    have hfk : bs.take f ++ (bs.drop f).take k = bs.take (f + k) := List.take_add.symm
    have hf3 : [(bs.drop f).take k].flatten = (bs.drop f).take k := by simp
    have t3 : total [(bs.drop f).take k] ≤ 700 := by unfold total; rw [hf3]; simp; omega
    have tkb : ∀ n, ∀ x ∈ bs.take n, isByte x := fun n x hx => hby x (List.mem_of_mem_take hx)
    have hxs : (xss ++ [(bs.drop f).take k]).flatten = bs.take (f + k) := by rw [List.flatten_append, hfx, hf3, hfk]
    refine newSl_C q2 0 rfl fun s3 q3 m3 o3 n3 c3 => ?_
    replace m := m.step m3 (by simp)
    replace hd := hd.mv m3 (by simp) (by simp)
    replace he := he.mv m3 (by simp) (by simp)
    replace hb := hb.mv m3 (by simp)
    replace o2 := o2.mv m3 (by simp)
    replace hall := fun k sl xs a b => And.intro ((hall k sl xs a b).1.mv m3 (by simp)) (hall k sl xs a b).2
    refine hashWrite (by decide) (by decide) (by decide) hd (by simp; omega) s3 [(bs.drop f).take k] (RowsC.one o3.rd (hpc _ m) hc1) (oneRow fun x hx => hby x (List.mem_of_mem_drop (List.mem_of_mem_take hx))) (by omega) (by simp) (fun _ q4 m4 d4 => ⟨_, rfl, ?_⟩) (fun h => absurd (by simp; omega) h)
    rw [hf3, hfk] at d4
    replace m := m.step m4 (by simp)
    replace he := he.mv m4 (by simp) (by simp)
    replace hb := hb.mv m4 (by simp)
    replace o2 := o2.mv m4 (by simp)
    replace hall := fun k sl xs a b => And.intro ((hall k sl xs a b).1.mv m4 (by simp)) (hall k sl xs a b).2
    clear m1 m2 m3 m4 hd
    dsimp only
    rw [if_neg (by decide)]
    have hto : ∀ q : GH, Mv KP g.base q → RdC 1 q 0 ⟨if v.c = 0 then v.a else v.a.map (·.add (0 * sizeOfT Try.prog T.uint8)), f + k - 0, v.c - 0⟩ ((bs.take (f + k)).map byV) := by
      intro q m
      have := (hr.arg m (by decide)).mid (l := 0) (h := f + k) (sz := sizeOfT Try.prog T.uint8) (by kernel_rfl) (by omega) (by simp; omega) hcap
      rw [← List.map_drop, ← List.map_take, List.drop_zero] at this
      exact this
    have hto2 : ((f + k - 0 : Nat)) ≤ v.c - 0 := by omega
    refine slice_upto (n := f + k) rfl (by omega) ?_
    refine tagCmp d4 (hto _ m) hto2 (tkb _) rfl (by simp; omega) fun q5 m5 => ?_
    replace m := m.step m5 (by simp)
    replace d4 := d4.mv m5 (by simp) (by simp)
    replace he := he.mv m5 (by simp) (by simp)
    replace hb := hb.mv m5 (by simp)
    replace o2 := o2.mv m5 (by simp)
    replace hall := fun k sl xs a b => And.intro ((hall k sl xs a b).1.mv m5 (by simp)) (hall k sl xs a b).2
    refine slice_upto (n := f + k) rfl (by omega) ?_
    refine tagCmp d4 (hto _ m) hto2 (tkb _) rfl (by simp; omega) fun q6 m6 => ?_
    replace m := m.step m6 (by simp)
    replace d4 := d4.mv m6 (by simp) (by simp)
    replace he := he.mv m6 (by simp) (by simp)
    replace hb := hb.mv m6 (by simp)
    replace o2 := o2.mv m6 (by simp)
    replace hall := fun k sl xs a b => And.intro ((hall k sl xs a b).1.mv m6 (by simp)) (hall k sl xs a b).2
    refine newSl_C q6 0 rfl fun s7 q7 m7 o7 n7 c7 => ?_
    replace m := m.step m7 (by simp)
    replace d4 := d4.mv m7 (by simp) (by simp)
    replace he := he.mv m7 (by simp) (by simp)
    replace hb := hb.mv m7 (by simp)
    replace o2 := o2.mv m7 (by simp)
    replace hall := fun k sl xs a b => And.intro ((hall k sl xs a b).1.mv m7 (by simp)) (hall k sl xs a b).2
    have hml := mulLen i cs
    have hmb : i * cs.length ≤ 9 * 700 := Nat.mul_le_mul (by omega) (by omega)
    refine hashWrite (by decide) (by decide) (by decide) he (by omega) s7 [cs] (RowsC.one o7.rd (hr2.arg m (by decide)) hcap2) (oneRow hby2) (by omega) (by simp) (fun _ q8 m8 e8 => ⟨_, rfl, ?_⟩) (fun h => absurd (by omega) h)
    rw [mulRow] at e8
    replace m := m.step m8 (by simp)
    replace d4 := d4.mv m8 (by simp) (by simp)
    replace hb := hb.mv m8 (by simp)
    replace o2 := o2.mv m8 (by simp)
    replace hall := fun k sl xs a b => And.intro ((hall k sl xs a b).1.mv m8 (by simp)) (hall k sl xs a b).2
    dsimp only
    rw [if_neg (by decide)]
    refine hashLen d4 ⟨_, rfl, ?_⟩
    try dsimp only
    rw [if_neg (by simp; omega)]
    refine hX _ _ ⟨i + 1, f + k, s2, sls ++ [v1], xss ++ [(bs.drop f).take k], q8, by omega, by omega, rfl, rfl, m, d4, e8, hb, by simpa using o2, by simp [hl], by simp [hl2], hxs, ?_⟩ (by simp; omega)
    intro j sl xs hj hx
    by_cases hji : j < sls.length
    · rw [List.getElem?_append_left hji] at hj
      rw [List.getElem?_append_left (by omega)] at hx
      exact hall j sl xs hj hx
    · have : j = i := by have := (List.getElem?_eq_some_iff.1 hj).1; simp at this; omega
      subst this
      rw [List.getElem?_append_right (by omega), show j - sls.length = 0 from by omega] at hj
      rw [List.getElem?_append_right (by omega), show j - xss.length = 0 from by omega] at hx
      simp at hj hx
      subst hj hx
      exact ⟨hpc _ m, hc1⟩
  · rw [if_neg (by simp; omega)]
    clear hX he
    refine slice_from (n := f) rfl (by omega) hcap ?_
    generalize hv1 : (⟨if v.c = f then v.a else v.a.map (·.add (f * sizeOfT Try.prog T.uint8)), v.n - f, v.c - f⟩ : Sl) = v1 at *
    have hc1 : v1.n ≤ v1.c := by rw [← hv1]; show v.n - f ≤ v.c - f; omega
    have hpc : ∀ q : GH, Mv KP g.base q → RdC 1 q 0 v1 ((bs.drop f).map byV) := by
      intro q m
      have := (hr.arg m (by decide)).drop (sz := sizeOfT Try.prog T.uint8) (n := f) (by kernel_rfl) (by simp; omega) hcap
      rw [← List.map_drop, hv1] at this
      exact this
    refine newSl_C q 0 rfl fun s1 q1 m1 o1 n1 c1 => ?_
    replace m := m.step m1 (by simp)
    replace hd := hd.mv m1 (by simp) (by simp)
    replace hb := hb.mv m1 (by simp)
    replace ho := ho.mv m1 (by simp)
    replace hall := fun k sl xs a b => And.intro ((hall k sl xs a b).1.mv m1 (by simp)) (hall k sl xs a b).2
    refine append_C (e := T.sl_uint8) (e2 := T.sl_uint8) (sz := 1) (by_ := 24) (z := .slice none 0 0) (by kernel_rfl) (by kernel_rfl) (by kernel_rfl) rfl (by omega) ho o1.rd.rd (by simp [Value.oneCell']) (by omega) fun s2 q2 m2 o2 hn2 _ => ?_
    replace m := m.step m2 (by simp)
    replace hd := hd.mv m2 (by simp) (by simp)
    replace hb := hb.mv m2 (by simp)
    replace hall := fun k sl xs a b => And.intro ((hall k sl xs a b).1.mv m2 (by simp)) (hall k sl xs a b).2
    refine slice_from (n := f) rfl (by omega) hcap ?_
    rw [hv1]
    have hf3 : [bs.drop f, []].flatten = bs.drop f := by simp
    have t3 : total [bs.drop f, []] ≤ 700 := by unfold total; rw [hf3]; simp; omega
    refine newSl_C q2 0 rfl fun s3 q3 m3 o3 n3 c3 => ?_
    replace m := m.step m3 (by simp)
    replace hd := hd.mv m3 (by simp) (by simp)
    replace hb := hb.mv m3 (by simp)
    replace o2 := o2.mv m3 (by simp)
    replace hall := fun k sl xs a b => And.intro ((hall k sl xs a b).1.mv m3 (by simp)) (hall k sl xs a b).2
    refine hashWrite (by decide) (by decide) (by decide) hd (by simp; omega) s3 [bs.drop f, []] (RowsC.two (b := ⟨none, 0, 0⟩) o3.rd (hpc _ m) hc1 (RdC.nil _ _ _ _ _) (by simp)) (twoRow (fun x hx => hby x (List.mem_of_mem_drop hx)) (by simp)) (by omega) (by simp) (fun _ q4 m4 d4 => ⟨_, rfl, ?_⟩) (fun h => absurd (by simp; omega) h)
    rw [hf3, List.take_append_drop] at d4
    replace m := m.step m4 (by simp)
    replace hb := hb.mv m4 (by simp)
    replace o2 := o2.mv m4 (by simp)
    replace hall := fun k sl xs a b => And.intro ((hall k sl xs a b).1.mv m4 (by simp)) (hall k sl xs a b).2
    dsimp only
    rw [if_pos (by decide)]
    refine loadAgg_whole hb (by rw [szTag, hts]) ?_
    refine hashTag d4 (by omega) fun q5 m5 => ⟨_, rfl, stillAgg_whole (hb.mv m5 (by simp)) (by rw [szTag, hts]), ?_⟩
    replace m := m.step m5 (by simp)
    replace d4 := d4.mv m5 (by simp) (by simp)
    replace hb := hb.mv m5 (by simp)
    replace o2 := o2.mv m5 (by simp)
    replace hall := fun k sl xs a b => And.intro ((hall k sl xs a b).1.mv m5 (by simp)) (hall k sl xs a b).2
    refine sha_eq rfl ?_
    rw [if_pos rfl]
    refine loadAgg_whole hb (by rw [szTag, hts]) ?_
    have hxs : (xss ++ [bs.drop f, []]).flatten = bs := by rw [List.flatten_append, hfx, hf3, List.take_append_drop]
    have hrow : RowsC q5.base 0 s2 (xss ++ [bs.drop f, []]) := by
      refine .of (sls := sls ++ [v1, ⟨none, 0, 0⟩]) (by have := o2.rd.base; simpa using this) (by simp; omega) fun j sl xs hj hx => ?_
      by_cases hji : j < sls.length
      · rw [List.getElem?_append_left hji] at hj
        rw [List.getElem?_append_left (by omega)] at hx
        exact ⟨(hall j sl xs hj hx).1.base, (hall j sl xs hj hx).2⟩
      · rw [List.getElem?_append_right (by omega)] at hj hx
        rw [show j - xss.length = j - sls.length by omega] at hx
        rcases hjj : j - sls.length with _ | _ | j'
        · rw [hjj] at hj hx
          simp at hj hx
          subst hj hx
          exact ⟨(hpc _ m).base, hc1⟩
        · rw [hjj] at hj hx
          simp at hj hx
          subst hj hx
          exact ⟨RdC.nil _ _ _ _ _, by simp⟩
        · rw [hjj] at hj
          simp at hj
    refine digestOf_spec q5.base s2 _ hrow (fun xs h x hx => hby x (by rw [← hxs]; exact List.mem_flatten.2 ⟨xs, h, hx⟩)) (by unfold total; rw [hxs]; omega) (by simp; omega) fun q6 m6 => ⟨_, rfl, ?_⟩
    rw [hxs]
    have m7 := m6.via (g := q5) (by simp) fun _ => 0
    have e6 : q6.h = (q5.via q6 fun _ => 0).h := rfl
    rw [e6]
    generalize (q5.via q6 fun _ => 0) = q7 at m7
    replace m := m.step m7 (by simp)
    replace d4 := d4.mv m7 (by simp) (by simp)
    replace hb := hb.mv m7 (by simp)
    refine ⟨stillAgg_whole hb (by rw [szTag, hts]), ?_⟩
    refine sha_eq rfl ?_
    rw [if_pos rfl]
    refine loadAgg_whole hb (by rw [szTag, hts]) ?_
    refine hashTag d4 (by omega) fun q8 m8 => ⟨_, rfl, stillAgg_whole (hb.mv m8 (by simp)) (by rw [szTag, hts]), ?_⟩
    replace m := m.step m8 (by simp)
    replace d4 := d4.mv m8 (by simp) (by simp)
    refine sha_eq rfl ?_
    rw [if_pos rfl]
    refine hashLen d4 ⟨_, rfl, ?_⟩
    show R (.bool (_ == _)) _
    have : (((bs.length : Nat) : Int) == (v.n : Int)) = true := by simp [hn]
    rw [this]
    exact H (g.via q8 fun _ => 0) (m.via (by simp) _)

theorem DigestParts_walk {h : Heap} (a : Option Addr) (la ca : Nat) (x : List Int) (w : Lay h (.sl (.int .u8)) x [.slice a la ca]) (b : Option Addr) (lb cb : Nat) (y : List Int) (w' : Lay h (.sl (.int .i64)) y [.slice b lb cb]) (c : Option Addr) (lc cc : Nat) (z : List Int) (w2 : Lay h (.sl (.int .u8)) z [.slice c lc cc]) :
    HC Try.prog F.law02_DigestParts #[.slice a la ca, .slice b lb cb, .slice c lc cc] (fun v h' => v = .bool true ∧ Ext h h') h :=
  DigestParts_spec ⟨h, fun _ => 0⟩ ⟨a, la, ca⟩ ⟨b, lb, cb⟩ ⟨c, lc, cc⟩ x y z (c := 0) (d := 0) (e := 0) (w.arg (Mv.refl [] _) (by simp)) (w'.arg (Mv.refl [] _) (by simp)) (w2.arg (Mv.refl [] _) (by simp)) fun g' m => ⟨rfl, m.ext (by simp)⟩

end Go.Proofs.Ytkpcoknfojnlbaa
