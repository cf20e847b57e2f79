/-
  The keyed digest tells what the document says, and leaves alone what it is lent.
-/
import Derived.Test.YtcbpajedibamoaaKLaw03
set_option linter.unusedSimpArgs false
set_option linter.unusedVariables false
namespace Go.Proofs.Ytcbpajedibamoaa
open Go Go.Ev

theorem macOf_base (q : GH) {d e : Nat} (v w : Sl) (ks : List Int) (xss : List (List Int)) (hk : RdC 1 q.base e v (ks.map byV)) (hkc : v.n ≤ v.c) (hkl : ks.length ≤ 70000000) (hkb : ∀ x ∈ ks, isByte x)
    (hr : RowsC q.base d w xss) (hby : ∀ xs ∈ xss, ∀ x ∈ xs, isByte x) (ht : total xss ≤ 70000000) (hl : xss.length ≤ 10000000) {R : Value → Heap → Prop} (H : ∀ g' : GH, Mv [] q g' → R (.agg (tagA (macB ks xss.flatten))) g'.h) :
    HC Try.prog F.mac_Of #[.slice v.a v.n v.c, .slice w.a w.n w.c] R q.h := macOf_spec q.base v w ks xss hk hkc hkl hkb hr hby ht hl fun g' m => H (q.via g' fun _ => 0) (m.via (by simp) _)
theorem macCheck_base (q : GH) {d e : Nat} (v w : Sl) (ks t : List Int) (xss : List (List Int)) (htl : t.length = 32) (htb : ∀ x ∈ t, isByte x) (hk : RdC 1 q.base e v (ks.map byV)) (hkc : v.n ≤ v.c) (hkl : ks.length ≤ 70000000) (hkb : ∀ x ∈ ks, isByte x)
    (hr : RowsC q.base d w xss) (hby : ∀ xs ∈ xss, ∀ x ∈ xs, isByte x) (ht : total xss ≤ 70000000) (hl : xss.length ≤ 10000000) {R : Value → Heap → Prop} (H : ∀ g' : GH, Mv [] q g' → R (.int .i64 (if macB ks xss.flatten = t then 0 else 7)) g'.h) :
    HC Try.prog F.mac_Check #[.slice v.a v.n v.c, .agg (tagA t), .slice w.a w.n w.c] R q.h := macCheck_spec q.base v w ks t xss htl htb hk hkc hkl hkb hr hby ht hl fun g' m => H (q.via g' fun _ => 0) (m.via (by simp) _)

theorem tagArg {g : GH} {c : Nat} {x : List Int} {cs : Array Value} (l : LayC g c ShTag x cs.toList) : cs = tagA x ∧ x.length = 32 ∧ ∀ y ∈ x, isByte y := by
  obtain ⟨h1, h2, h3⟩ := LayC.enc (s := ShTag) rfl l
  rw [encTag] at h1
  exact ⟨Array.toList_inj.1 h1, h2, fun y hy => h3 y hy⟩

theorem byteRows {xss : List (List Int)} (h : ∀ xs ∈ xss, ∀ x ∈ xs, 0 ≤ x ∧ x ≤ 255) : ∀ xs ∈ xss, ∀ x ∈ xs, isByte x := h
theorem byteFlat {xss : List (List Int)} (h : ∀ xs ∈ xss, ∀ x ∈ xs, 0 ≤ x ∧ x ≤ 255) : ∀ x ∈ xss.flatten, isByte x := by
  intro x hx
  obtain ⟨xs, h1, h2⟩ := List.mem_flatten.1 hx
  exact h xs h1 x h2
theorem rowLe {xss : List (List Int)} {xs : List Int} (h : xs ∈ xss) : xs.length ≤ total xss := by
  unfold total
  rw [List.length_flatten]
  exact le_of_mem_sum (List.mem_map.2 ⟨xs, h, rfl⟩)
theorem byteInts {bs : List Int} (h : ∀ x ∈ bs, IntKind.u8.min ≤ x ∧ x ≤ IntKind.u8.max) : ∀ x ∈ bs, isByte x := fun x hx => h x hx

abbrev KM : List Nat := [1, 2, 3, 4, 5, 6]

set_option maxHeartbeats 2000000 in
theorem MacTells_spec (g : GH) {c d : Nat} (v w : Sl) (ks : List Int) (xss : List (List Int)) (t : List Int) (htl : t.length = 32) (htb : ∀ x ∈ t, isByte x) (hs : SlC g c (.int .u8) v ks) (hw : SlC g d (.sl (.int .u8)) w xss)
    {R : Value → Heap → Prop} (H : ∀ g' : GH, Mv [] g g' → R (.bool true) g'.h) : HC Try.prog F.law03_MacTells #[.slice v.a v.n v.c, .slice w.a w.n w.c, .agg (tagA t)] R g.h := by
  refine law03_MacTells.calls (key0 := v) (rows1 := w) ?_
  unfold law03_MacTells.body
  obtain ⟨hr, hby0⟩ := hs.ints
  obtain ⟨hrw, hbw, hwl⟩ := hw.rows
  have hby := byteInts hby0
  have hn := hs.len
  have hnw := hw.len
  have hcap := hs.cap
  have hsm := hs.small
  have m : Mv KM g.base g.base := Mv.refl _ _
  refine new_C g.base 1 fun p1 q1 m1 hbT => ?_
  replace m := m.step m1 (by simp)
  refine size03_spec (g := q1) w xss (hrw.arg m (by simp)) hwl hw.small fun n hn1 hsz => ⟨_, rfl, ?_⟩
  try dsimp only
  rw [wrapI64 (by omega) (by omega)]
  rcases Nat.lt_or_ge 700 (v.n + n) with h7 | h7
  · rw [if_pos (by simp; omega)]
    exact awake03_spec q1 fun g' m2 => ⟨_, rfl, by
      replace m := m.step m2 (by simp)
      exact H (g.via g' fun _ => 0) (m.via (by simp) _)⟩
  rw [if_neg (by simp; omega)]
  have ht := hsz (by omega)
  have ht' : xss.flatten.length ≤ 700 := by show total xss ≤ 700; omega
  have hxl : xss.length ≤ 700 := by omega
  have hfb := byteFlat hbw
  refine LentBytes_C q1 2 v ks (hr.arg m (by simp)).rd (by omega) fun s2 q2 m2 lk => ⟨_, rfl, ?_⟩
  replace m := m.step m2 (by simp)
  replace hbT := hbT.mv m2 (by simp)
  refine loopW_rule (fun st h' => ∃ (i : Nat) (s : Sl) (sls : List Sl) (q : GH), i ≤ xss.length ∧ st = (s, (i : Int)) ∧ h' = q.h ∧ Mv KM g.base q ∧ BlkC q 1 p1 (tagA t) T.api_Tag ∧ LentBytesC q 2 s2 ks ∧ OwnC T.sl_uint8 1 q 3 s (sls.map slV) ∧ sls.length = i ∧
      ∀ (k : Nat) (sl : Sl) (xs : List Int), sls[k]? = some sl → xss[k]? = some xs → LentBytesC q 4 sl xs) (fun st => xss.length - st.2.toNat)
    ⟨0, ⟨none, 0, 0⟩, [], q2, by omega, rfl, rfl, m, hbT, lk, OwnC.nil _ _ _ _, rfl, by simp⟩ ?_
  clear m lk hbT
  rintro X _ _ ⟨i, s, sls, q, hi, rfl, rfl, m, hbT, lk, ho, hl, hall⟩ hX
  dsimp only
  by_cases hlt : i < xss.length
  · rw [if_pos (by simp; omega)]
    have hxi := rowLe (List.getElem_mem hlt)
    refine (hrw.arg m (by decide)).idx (by kernel_rfl) hlt fun s1 r1 c1 => ?_
    refine LentBytes_C q 4 s1 _ r1.rd (by omega) fun s3 q3 m3 l3 => ⟨_, rfl, ?_⟩
    replace m := m.step m3 (by simp)
    replace hbT := hbT.mv m3 (by simp)
    replace lk := lk.mv m3 (by simp)
    replace ho := ho.mv m3 (by simp)
    replace hall := fun k sl xs a b => (hall k sl xs a b).mv m3 (by simp)
    try dsimp only
    refine newSl_C q3 5 rfl fun s4 q4 m4 o4 hn4 c4 => ?_
    replace m := m.step m4 (by simp)
    replace hbT := hbT.mv m4 (by simp)
    replace lk := lk.mv m4 (by simp)
    replace ho := ho.mv m4 (by simp)
    replace hall := fun k sl xs a b => (hall k sl xs a b).mv m4 (by simp)
    replace l3 := l3.mv m4 (by simp)
    refine append_C (e := T.sl_uint8) (e2 := T.sl_uint8) (sz := 1) (by_ := 24) (z := .slice none 0 0) (by kernel_rfl) (by kernel_rfl) (by kernel_rfl) rfl (by omega) ho o4.rd.rd (by simp [Value.oneCell']) (by have := ho.len; simp at this; omega) fun s5 q5 m5 o5 hn5 _ => ?_
    replace m := m.step m5 (by simp)
    replace hbT := hbT.mv m5 (by simp)
    replace lk := lk.mv m5 (by simp)
    replace hall := fun k sl xs a b => (hall k sl xs a b).mv m5 (by simp)
    replace l3 := l3.mv m5 (by simp)
    rw [wrapSucc (by omega)]
    refine hX _ _ ⟨i + 1, s5, sls ++ [s3], q5, by omega, by simp, rfl, m, hbT, lk, by simpa using o5, by simp [hl], ?_⟩ (by simp; omega)
    intro k sl xs hk hx
    by_cases hki : k < sls.length
    · rw [List.getElem?_append_left hki] at hk
      exact hall k sl xs hk hx
    · have : k = i := by have := (List.getElem?_eq_some_iff.1 hk).1; simp at this; omega
      subst this
      rw [List.getElem?_append_right (by omega), show k - sls.length = 0 from by omega] at hk
      simp at hk
      subst hk
      obtain ⟨_, rfl⟩ := List.getElem?_eq_some_iff.1 hx
      exact l3
  · rw [if_neg (by simp; omega)]
    clear hX
    have hi' : i = xss.length := by omega
    subst hi'
    have rowsAt : ∀ q : GH, OwnC T.sl_uint8 1 q 3 s (sls.map slV) → (∀ (k : Nat) (sl : Sl) (xs : List Int), sls[k]? = some sl → xss[k]? = some xs → LentBytesC q 4 sl xs) → RowsC q.base 0 s xss := fun q ho hall =>
      .of ho.rd.base hl fun k sl xs a b => ⟨(hall k sl xs a b).rd.base, (hall k sl xs a b).cap⟩
    refine Join02_spec q 5 w xss (hrw.arg m (by simp)) (by omega) (by omega) fun s3 q3 m3 o3 => ⟨_, rfl, ?_⟩
    replace m := m.step m3 (by simp)
    replace hbT := hbT.mv m3 (by simp)
    replace lk := lk.mv m3 (by simp)
    replace ho := ho.mv m3 (by simp)
    replace hall := fun k sl xs a b => (hall k sl xs a b).mv m3 (by simp)
    try dsimp only
    refine ref03Of_spec q3 v s3 ks _ (hr.arg m (by simp)) (by omega) hby o3.rd hfb (by omega) fun q4 m4 => ⟨_, rfl, ?_⟩
    replace m := m.step m4 (by simp)
    replace hbT := hbT.mv m4 (by simp)
    replace lk := lk.mv m4 (by simp)
    replace ho := ho.mv m4 (by simp)
    replace hall := fun k sl xs a b => (hall k sl xs a b).mv m4 (by simp)
    generalize hmac : macB ks xss.flatten = mac
    have hml : mac.length = 32 := by rw [← hmac]; exact macB_length _ _
    have hmb : ∀ x ∈ mac, isByte x := by rw [← hmac]; exact macB_byte _ _
    try dsimp only
    rw [zTag]
    refine new_C q4 5 fun p5 q5 m5 hbW => ?_
    replace m := m.step m5 (by simp)
    replace hbT := hbT.mv m5 (by simp)
    replace lk := lk.mv m5 (by simp)
    replace ho := ho.mv m5 (by simp)
    replace hall := fun k sl xs a b => (hall k sl xs a b).mv m5 (by simp)
    refine storeAgg_C hbW (tagA_size hml).symm (by rw [szTag]; simp) (fun v hv => oneBy _ v hv) fun q6 m6 hbW => ?_
    rw [overA_all (by simp [hml])] at hbW
    replace m := m.step m6 (by simp)
    replace hbT := hbT.mv m6 (by simp)
    replace lk := lk.mv m6 (by simp)
    replace ho := ho.mv m6 (by simp)
    replace hall := fun k sl xs a b => (hall k sl xs a b).mv m6 (by simp)
    refine macOf_base q6 s2 s ks xss lk.rd.base lk.cap (by omega) hby (rowsAt _ ho hall) (byteRows hbw) (by omega) (by omega) fun q7 m7 => ⟨_, rfl, ?_⟩
    rw [hmac]
    replace m := m.step m7 (by simp)
    replace hbT := hbT.mv m7 (by simp)
    replace hbW := hbW.mv m7 (by simp)
    replace lk := lk.mv m7 (by simp)
    replace ho := ho.mv m7 (by simp)
    replace hall := fun k sl xs a b => (hall k sl xs a b).mv m7 (by simp)
    try dsimp only
    refine new_C q7 6 fun p6 q8 m8 hbG => ?_
    replace m := m.step m8 (by simp)
    replace hbT := hbT.mv m8 (by simp)
    replace hbW := hbW.mv m8 (by simp)
    replace lk := lk.mv m8 (by simp)
    replace ho := ho.mv m8 (by simp)
    replace hall := fun k sl xs a b => (hall k sl xs a b).mv m8 (by simp)
    refine storeAgg_C hbG (tagA_size hml).symm (by rw [szTag]; simp) (fun v hv => oneBy _ v hv) fun q9 m9 hbG => ?_
    rw [overA_all (by simp [hml])] at hbG
    replace m := m.step m9 (by simp)
    replace hbT := hbT.mv m9 (by simp)
    replace hbW := hbW.mv m9 (by simp)
    replace lk := lk.mv m9 (by simp)
    replace ho := ho.mv m9 (by simp)
    replace hall := fun k sl xs a b => (hall k sl xs a b).mv m9 (by simp)
    refine joinW_intro (fun b h' => b = true ∧ ∃ q : GH, h' = q.h ∧ Mv KM g.base q ∧ LentBytesC q 2 s2 ks ∧ OwnC T.sl_uint8 1 q 3 s (sls.map slV) ∧ ∀ (k : Nat) (sl : Sl) (xs : List Int), sls[k]? = some sl → xss[k]? = some xs → LentBytesC q 4 sl xs) ?_ ?_
    · intro J hJ
      have hJ' : ∀ (b : Bool) (q : GH), b = true → Mv KM g.base q → LentBytesC q 2 s2 ks → OwnC T.sl_uint8 1 q 3 s (sls.map slV) → (∀ (k : Nat) (sl : Sl) (xs : List Int), sls[k]? = some sl → xss[k]? = some xs → LentBytesC q 4 sl xs) → J b q.h := fun b q e m l o a => hJ b _ ⟨e, q, rfl, m, l, o, a⟩
      have tT := tagA_size htl
      have tM := tagA_size hml
      refine loadAgg_whole hbG tM (loadAgg_whole hbW tM ?_)
      refine tag_eq hml hmb hml hmb ?_
      rw [if_pos (by simp)]
      refine loadAgg_whole hbT tT (loadAgg_whole hbT tT ?_)
      refine macCheck_base q9 s2 s ks t xss htl htb lk.rd.base lk.cap (by omega) hby (rowsAt _ ho hall) (byteRows hbw) (by omega) (by omega) fun q10 m10 => ⟨_, rfl, ?_⟩
      rw [hmac]
      replace m := m.step m10 (by simp)
      replace hbT := hbT.mv m10 (by simp)
      replace hbW := hbW.mv m10 (by simp)
      replace lk := lk.mv m10 (by simp)
      replace ho := ho.mv m10 (by simp)
      replace hall := fun k sl xs a b => (hall k sl xs a b).mv m10 (by simp)
      try dsimp only
      refine ⟨stillAgg_whole hbT tT, ?_⟩
      refine Join02_spec q10 5 w xss (hrw.arg m (by simp)) (by omega) (by omega) fun s11 q11 m11 o11 => ⟨_, rfl, ?_⟩
      replace m := m.step m11 (by simp)
      replace hbT := hbT.mv m11 (by simp)
      replace hbW := hbW.mv m11 (by simp)
      replace lk := lk.mv m11 (by simp)
      replace ho := ho.mv m11 (by simp)
      replace hall := fun k sl xs a b => (hall k sl xs a b).mv m11 (by simp)
      try dsimp only
      refine ⟨stillAgg_whole hbT tT, ?_⟩
      refine ref03Check_spec q11 v s11 ks t _ htl htb (hr.arg m (by simp)) (by omega) hby o11.rd hfb (by omega) fun q12 m12 => ⟨_, rfl, ?_⟩
      rw [hmac]
      replace m := m.step m12 (by simp)
      replace hbT := hbT.mv m12 (by simp)
      replace hbW := hbW.mv m12 (by simp)
      replace lk := lk.mv m12 (by simp)
      replace ho := ho.mv m12 (by simp)
      replace hall := fun k sl xs a b => (hall k sl xs a b).mv m12 (by simp)
      try dsimp only
      rw [if_pos (by simp)]
      refine loadAgg_whole hbW tM ?_
      refine macCheck_base q12 s2 s ks mac xss hml hmb lk.rd.base lk.cap (by omega) hby (rowsAt _ ho hall) (byteRows hbw) (by omega) (by omega) fun q13 m13 => ⟨_, rfl, ?_⟩
      rw [hmac, if_pos rfl]
      replace m := m.step m13 (by simp)
      replace hbT := hbT.mv m13 (by simp)
      replace hbW := hbW.mv m13 (by simp)
      replace lk := lk.mv m13 (by simp)
      replace ho := ho.mv m13 (by simp)
      replace hall := fun k sl xs a b => (hall k sl xs a b).mv m13 (by simp)
      try dsimp only
      simp only [if_pos (show ((0 : Int) == 0) = true from rfl)]
      have fin : ∀ (q : GH) (m' : Mv [] q13 q), J (decide (t = mac) == decide (t = mac)) q.h := fun q m' => hJ' _ q (by simp) (m.step m' (by simp)) (lk.mv m' (by simp)) (ho.mv m' (by simp)) fun k sl xs a b => (hall k sl xs a b).mv m' (by simp)
      refine ⟨?_, ?_, ?_, ?_⟩
      · refine loadAgg_whole hbT tT (loadAgg_whole hbW tM (loadAgg_whole hbT tT (loadAgg_whole hbW tM ?_)))
        refine tag_eq htl htb hml hmb ?_
        exact Same_spec q13 t mac htl htb hml hmb fun q14 m14 => ⟨_, rfl, stillAgg_whole (hbW.mv m14 (by simp)) tM, stillAgg_whole (hbT.mv m14 (by simp)) tT, fin q14 m14⟩
      · refine loadAgg_whole hbW tM (loadAgg_whole hbT tT (loadAgg_whole hbT tT (loadAgg_whole hbW tM ?_)))
        refine tag_eq htl htb hml hmb ?_
        exact Same_spec q13 t mac htl htb hml hmb fun q14 m14 => ⟨_, rfl, stillAgg_whole (hbW.mv m14 (by simp)) tM, stillAgg_whole (hbT.mv m14 (by simp)) tT, fin q14 m14⟩
      · refine loadAgg_whole hbT tT (loadAgg_whole hbT tT (loadAgg_whole hbW tM (loadAgg_whole hbW tM ?_)))
        refine tag_eq htl htb hml hmb ?_
        exact Same_spec q13 t mac htl htb hml hmb fun q14 m14 => ⟨_, rfl, stillAgg_whole (hbW.mv m14 (by simp)) tM, fin q14 m14⟩
      · refine loadAgg_whole hbW tM (loadAgg_whole hbT tT (loadAgg_whole hbW tM (loadAgg_whole hbT tT ?_)))
        refine tag_eq htl htb hml hmb ?_
        exact Same_spec q13 t mac htl htb hml hmb fun q14 m14 => ⟨_, rfl, stillAgg_whole (hbT.mv m14 (by simp)) tT, fin q14 m14⟩
    · rintro _ _ ⟨rfl, q, rfl, m, lk, ho, hall⟩
      refine loopW_rule (fun st h' => ∃ i : Nat, i ≤ xss.length ∧ st = (i : Int) ∧ h' = q.h) (fun st => xss.length - st.toNat) ⟨0, by omega, rfl, rfl⟩ ?_
      rintro Y _ _ ⟨i, hi, rfl, rfl⟩ hY
      by_cases hlt : i < xss.length
      · rw [if_pos (by simp; omega)]
        have hli : i < sls.length := by omega
        have hxi := rowLe (List.getElem_mem hlt)
        have hsl : (sls.map slV)[i]? = some (Kd.inj .slice sls[i]) := by rw [List.getElem?_map, List.getElem?_eq_getElem hli]; rfl
        have hlent := hall i _ _ (List.getElem?_eq_getElem hli) (List.getElem?_eq_getElem hlt)
        refine idxLoadN ho.rd.rd (by kernel_rfl) (k := .slice) _ hsl ?_
        refine (hrw.arg m (by decide)).idx (by kernel_rfl) hlt fun s1 r1 c1 => ?_
        refine ⟨_, KeptBytes_spec _ s1 _ hlent.lent r1.rd (by omega) ⟨rfl, rfl⟩, ?_⟩
        dsimp only
        rw [if_neg (by simp), wrapSucc (by omega)]
        exact hY _ _ ⟨i + 1, by omega, rfl, rfl⟩ (by simp; omega)
      · rw [if_neg (by simp; omega)]
        rw [if_pos rfl]
        refine KeptBytes_spec _ v _ lk.lent (hr.arg m (by decide)).rd (by omega) ⟨_, rfl, ?_⟩
        dsimp only
        rw [if_pos rfl]
        refine awake03_spec q fun q5 m5 => ⟨_, rfl, ?_⟩
        replace m := m.step m5 (by simp)
        exact H (g.via q5 fun _ => 0) (m.via (by simp) _)

theorem MacTells_walk {h : Heap} (a : Option Addr) (la ca : Nat) (x : List Int) (w : Lay h (.sl (.int .u8)) x [.slice a la ca]) (b : Option Addr) (lb cb : Nat) (y : List (List Int)) (w' : Lay h (.sl (.sl (.int .u8))) y [.slice b lb cb]) (t : Array Value) (z : List Int) (w2 : Lay h ShTag z t.toList) :
    HC Try.prog F.law03_MacTells #[.slice a la ca, .slice b lb cb, .agg t] (fun v h' => v = .bool true ∧ Ext h h') h := by
  obtain ⟨rfl, h1, h2⟩ := tagArg (g := ⟨h, fun _ => 0⟩) (c := 0) (w2.arg (Mv.refl [] _) (by simp))
  exact MacTells_spec ⟨h, fun _ => 0⟩ ⟨a, la, ca⟩ ⟨b, lb, cb⟩ x y z h1 h2 (c := 0) (d := 0) (w.arg (Mv.refl [] _) (by simp)) (w'.arg (Mv.refl [] _) (by simp)) fun g' m => ⟨rfl, m.ext (by simp)⟩

end Go.Proofs.Ytcbpajedibamoaa
