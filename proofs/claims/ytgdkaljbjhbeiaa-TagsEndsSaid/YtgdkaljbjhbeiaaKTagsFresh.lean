/-
  TagsFresh.
-/
import Derived.Test.YtgdkaljbjhbeiaaKTells
import Derived.Test.YtgdkaljbjhbeiaaKTagsReal
import Derived.Test.YtgdkaljbjhbeiaaKMark
import Derived.Test.YtgdkaljbjhbeiaaKFlat
set_option linter.unusedSimpArgs false
set_option linter.unusedVariables false
namespace Go.Proofs.Ytgdkaljbjhbeiaa
open Go Go.Ev

theorem tagEnc (t : List Int) : tagA t = ⟨ShTag.enc t⟩ := by rw [encTag]
theorem okNum (n : Int) : ShTag.ok (numT n) := okTag (numT_length n) (numT_byte n)

/-- What tables told of the first things. -/
structure Fr (l : List AskT) (i : Nat) (A : List ShThing.T) (outs : List (List Int)) : Prop where
  len : outs.length = i
  at_ : ∀ (k : Nat) (a : AskT), k < i → l[k]? = some a → ∃ j : Nat, idxIn (thingOf a) A = some j ∧ outs[k]? = some (numT (j : Int))
  mem : ∀ y ∈ A, ∃ (k : Nat) (a : AskT), k < i ∧ l[k]? = some a ∧ thingOf a = y
  small : A.length ≤ i
theorem Fr.nil (l : List AskT) : Fr l 0 [] [] := ⟨rfl, by simp, by simp, by simp⟩
theorem idxIn_none {α : Type} [DecidableEq α] {y : α} : ∀ {xs : List α}, idxIn y xs = none ↔ y ∉ xs
  | [] => by simp [idxIn]
  | x :: xs => by
    by_cases e : y = x
    · simp [idxIn, e]
    · simp only [idxIn, if_neg e, Option.map_eq_none_iff, List.mem_cons, not_or]
      refine ⟨fun h => ⟨e, (idxIn_none (y := y) (xs := xs)).1 h⟩, fun h => (idxIn_none (y := y) (xs := xs)).2 h.2⟩
      -- idxIn_none (y := y) (xs := xs)
theorem askT_none {A : List ShThing.T} {x : ShThing.T} (h : idxIn x A = none) : askT A x = (A.length, A ++ [x]) := by unfold askT; rw [h]
theorem Fr.step {l : List AskT} {i : Nat} {A : List ShThing.T} {outs : List (List Int)} (h : Fr l i A outs) {a : AskT} (ha : l[i]? = some a) : Fr l (i + 1) (askT A (thingOf a)).2 (outs ++ [numT ((askT A (thingOf a)).1 : Int)]) := by
  refine ⟨by simp [h.len], fun k b hk hb => ?_, fun y hy => ?_, Nat.le_trans (askT_len _ _) (by have := h.small; omega)⟩
  · by_cases e : k = i
    · subst e
      rw [ha] at hb
      cases hb
      exact ⟨_, askT_idx A _, by rw [List.getElem?_append_right (by rw [h.len]; omega), h.len]; simp⟩
    · obtain ⟨j, h1, h2⟩ := h.at_ k b (by omega) hb
      exact ⟨j, (askT_since A _).idx h1, by rw [List.getElem?_append_left (by rw [h.len]; omega)]; exact h2⟩
  · cases hq : idxIn (thingOf a) A with
    | some j =>
      rw [askT_there hq] at hy
      obtain ⟨k, b, h1, h2, h3⟩ := h.mem y hy
      exact ⟨k, b, by omega, h2, h3⟩
    | none =>
      rw [askT_none hq] at hy
      rcases List.mem_append.1 hy with hy | hy
      · obtain ⟨k, b, h1, h2, h3⟩ := h.mem y hy
        exact ⟨k, b, by omega, h2, h3⟩
      · simp only [List.mem_singleton] at hy
        exact ⟨i, a, by omega, ha, hy.symm⟩
/-- An elder thing's tag is the newest's just if the things are the same. -/
theorem Fr.same {l : List AskT} {i : Nat} {A : List ShThing.T} {outs : List (List Int)} (h : Fr l i A outs) (hi : i ≤ 1000) {a b : AskT} {k : Nat} (hk : k < i) (hb : l[k]? = some b) {t : List Int} (ht : outs[k]? = some t) : t = numT ((askT A (thingOf a)).1 : Int) ↔ thingOf b = thingOf a := by
  obtain ⟨j, h1, h2⟩ := h.at_ k b hk hb
  rw [h2] at ht
  obtain rfl := Option.some.inj ht
  have h3 := (askT_since A (thingOf a)).idx h1
  have h4 := askT_idx A (thingOf a)
  have hs := h.small
  have hl := askT_len A (thingOf a)
  have l3 := idxIn_lt h3
  have l4 := idxIn_lt h4
  constructor
  · intro e
    have := numT_inj (by omega) (by omega) e
    rw [this] at h3
    exact idxIn_eq h3 h4
  · intro e
    rw [e] at h3
    rw [h3] at h4
    rw [Option.some.inj h4]
theorem Fr.fresh {l : List AskT} {i : Nat} {A : List ShThing.T} {outs : List (List Int)} (h : Fr l i A outs) {x : ShThing.T} : (∀ (k : Nat) (b : AskT), k < i → l[k]? = some b → ¬ thingOf b = x) ↔ idxIn x A = none := by
  rw [idxIn_none]
  constructor
  · intro hn hx
    obtain ⟨k, b, h1, h2, h3⟩ := h.mem x hx
    exact hn k b h1 h2 h3
  · intro hn k b hk hb e
    obtain ⟨j, h1, _⟩ := h.at_ k b hk hb
    rw [e] at h1
    have h2 : ¬ idxIn x A = none := by rw [h1]; simp
    exact h2 (idxIn_none.2 hn)

abbrev KFr : List Nat := [1, 2, 3, 4, 5, 6, 7, 8, 9, 10, 11]

set_option maxHeartbeats 4000000 in
set_option maxRecDepth 20000 in
theorem TagsFresh_spec (g : GH) (mx : MaxC g 0) (l : Sl) (xl : List AskT) (hl : SlC g 0 ShAsk l xl) (sd : Sl) (seed : List Int) (hsd : SlC g 0 (.int .u8) sd seed) (cs : Array Value) (x : AskT) (lay : LayC g 0 ShAsk x cs.toList)
    {R : Value → Heap → Prop} (H : ∀ g' : GH, Mv [] g g' → R (.bool true) g'.h) : HC Try.prog F.law04_TagsFresh #[.slice l.a l.n l.c, .slice sd.a sd.n sd.c, .agg cs] R g.h := by
  refine law04_TagsFresh.calls (l0 := l) (seed1 := sd) ?_
  unfold law04_TagsFresh.body
  obtain ⟨cl⟩ := cs
  obtain ⟨vk, vr, e0, hk, hr, hw, hn⟩ := LayC.ask lay
  try dsimp only at e0
  subst e0
  replace mx := mx.base
  have m := Mv.refl KFr g.base
  refine new_C g.base 1 fun px q1 m1 bx => ?_
  replace m := m.step m1 (by simp)
  refine awake04_spec q1 fun q2 m2 => ⟨_, rfl, ?_⟩
  replace m := m.step m2 (by simp)
  replace bx := bx.mv m2 (by simp)
  try dsimp only
  rw [if_neg (by simp)]
  have hsn := hsd.len
  have hss := hsd.small
  refine joinW_intro (fun _ h' => ∃ q : GH, h' = q.h ∧ Mv KFr g.base q ∧ BlkC q 1 px #[.int .i64 x.what, slV vk, slV vr, .int .i64 x.num] T.zugzwanglaw04_Ask ∧ sizes04 xl + seed.length + sizes04 [x] ≤ 400) ?_ ?_
  · intro J hJ
    refine loadAgg_whole bx (by try rw [sizeAsk]; rfl) ?_
    have yes : ∀ q : GH, Mv KFr g.base q → R (.bool true) q.h := fun q m => H (g.via q fun _ => 0) (m.via (by simp) _)
    have fin : ∀ (q : GH) (n1 n2 : Nat), Mv [] q2 q → n1 ≤ 10000000000000000 → (n1 ≤ 400 → sizes04 xl ≤ n1) → n2 ≤ 10000000000000000 → (n2 ≤ 400 → sizes04 [x] ≤ n2) →
        if (decide ((IntKind.i64.wrap ((IntKind.i64.wrap ((n1 : Int) + ((sd.n : Int)))) + (n2 : Int))) > 400)) = true then R (.bool true) q.h else J () q.h := by
      intro q n1 n2 mq h1 h2 h3 h4
      rw [wrapI64 (n := (n1 : Int) + (sd.n : Int)) (by omega) (by omega), wrapI64 (by omega) (by omega)]
      by_cases hc : (n1 : Int) + (sd.n : Int) + (n2 : Int) > 400
      · rw [if_pos (by simpa using hc)]
        exact yes q (m.step mq (by simp))
      · rw [if_neg (by simpa using hc)]
        have := h2 (by omega)
        have := h4 (by omega)
        exact hJ _ _ ⟨q, rfl, m.step mq (by simp), bx.mv mq (by simp), by omega⟩
    have one : ∀ (q : GH) (s : Sl), Mv KFr g.base q → OwnC T.zugzwanglaw04_Ask 4 q 0 s [.int .i64 x.what, slV vk, slV vr, .int .i64 x.num] → s.n = 1 → s.c = 1 → SlC q 0 ShAsk s [x] := fun q s mq o h1 h2 =>
      SlC.one (s := ShAsk) (by omega) h1 o.rd (LayC.arg mq (by simp) lay)
    refine ⟨?_, ?_⟩
    · refine size04_spec l xl (hl.arg m (by simp)) fun n1 h1 h2 => ⟨_, rfl, ?_⟩
      refine ⟨stillAgg_whole bx (by try rw [sizeAsk]; rfl), ?_⟩
      refine buildSl_C (e := T.zugzwanglaw04_Ask) (sz := 4) q2 0 _ (buildSl_Ask _ _ _ _) rfl fun s q3 m3 o3 hn3 hc3 => ?_
      refine size04_spec s [x] (one q3 s (m.step m3 (by simp)) o3 hn3 hc3) fun n2 h3 h4 => ⟨_, rfl, ?_⟩
      exact fin q3 n1 n2 m3 h1 h2 h3 h4
    · refine buildSl_C (e := T.zugzwanglaw04_Ask) (sz := 4) q2 0 _ (buildSl_Ask _ _ _ _) rfl fun s q3 m3 o3 hn3 hc3 => ?_
      refine size04_spec l xl (hl.arg (m.step m3 (by simp)) (by simp)) fun n1 h1 h2 => ⟨_, rfl, ?_⟩
      refine size04_spec s [x] (one q3 s (m.step m3 (by simp)) o3 hn3 hc3) fun n2 h3 h4 => ⟨_, rfl, ?_⟩
      exact fin q3 n1 n2 m3 h1 h2 h3 h4
  clear m m1 m2 bx
  rintro _ _ ⟨q3, rfl, m, bx, hsz⟩
  have hsx := sizes04_one x
  have hs1 : size04 x = x.key.length + x.rows.length + total x.rows := rfl
  have hxl : xl.length ≤ sizes04 xl := by unfold sizes04; omega
  refine makNew_spec q3 2 3 false ⟨none, 0, 0⟩ [] (RdC.nil _ _ 0 _ _) (by simp) (by simp) fun pm q4 m4 xm => ⟨_, rfl, ?_⟩
  replace m := m.step m4 (by simp)
  replace bx := bx.mv m4 (by simp)
  refine makNew_spec q4 4 5 false sd seed (hsd.ints.1.arg m (by simp)) (by omega) hsd.ints.2 fun po q5 m5 xo => ⟨_, rfl, ?_⟩
  replace m := m.step m5 (by simp)
  replace bx := bx.mv m5 (by simp)
  replace xm := xm.mv m5 (by simp) (by simp)
  have hln := hl.len
  have fin : ∀ q : GH, Mv KFr g.base q → R (.bool true) q.h := fun q m => H (g.via q fun _ => 0) (m.via (by simp) _)
  have sz : ∀ {i : Nat} (h : i < xl.length), size04 xl[i] ≤ 400 := fun h => by have := sizes04_get h; omega
  refine loopW_rule (fun st h' => ∃ (i : Nat) (q : GH) (A : List ShThing.T) (so : Sl) (outs : List (List Int)), i ≤ xl.length ∧ st = (so, (A.length : Int), (i : Int)) ∧ h' = q.h ∧ Mv KFr g.base q ∧ BlkC q 1 px #[.int .i64 x.what, slV vk, slV vr, .int .i64 x.num] T.zugzwanglaw04_Ask ∧ MakC q 2 3 pm false [] A ∧ MakC q 4 5 po false seed A ∧ OwnF T.api_Tag ShTag q 6 so outs ∧ Fr xl i A outs)
      (fun st => xl.length - st.2.2.toNat) ⟨0, q5, [], ⟨none, 0, 0⟩, [], by omega, rfl, rfl, m, bx, xm, xo, OwnF.nil _ _ _ _, Fr.nil xl⟩ ?_
  clear m m4 m5 bx xm xo
  rintro X _ _ ⟨i, q, A, so, outs, hi, rfl, rfl, m, bx, xm, xo, oo, fr⟩ hX
  try dsimp only
  have hA := fr.small
  by_cases hlt : i < xl.length
  · rw [if_pos (by simp; omega)]
    refine (hl.arg m (by simp)).idx (sizeAsk.trans rfl) (by decide) hlt fun b o cs rc lay' => ?_
    have okI := AskOk.of lay'
    obtain ⟨vk', vr', rfl, _, _, _, _⟩ := LayC.ask lay'
    refine loadAggK_cells rc (j := 0) rfl (by first | omega | (rw [sizeAsk]; omega)) (by first | (rw [sizeAsk]; simp) | simp) ?_
    try rw [sizeAsk]
    have hgi := sz hlt
    have hg1 : size04 xl[i] = xl[i].key.length + xl[i].rows.length + total xl[i].rows := rfl
    have hxi : xl[i]? = some xl[i] := List.getElem?_eq_getElem hlt
    have step := fr.step hxi
    have same := fun {b : AskT} {k : Nat} {t : List Int} (hk : k < i) (hb : xl[k]? = some b) (ht : outs[k]? = some t) => fr.same (a := xl[i]) (by omega) hk hb ht
    have frsh := fr.fresh (x := thingOf xl[i])
    have hal := askT_len A (thingOf xl[i])
    have hidx := askT_idx A (thingOf xl[i])
    have hjl := idxIn_lt hidx
    have hin : ∀ j : Nat, idxIn (thingOf xl[i]) A = some j → askT A (thingOf xl[i]) = (j, A) := fun j h => askT_there h
    have hno : idxIn (thingOf xl[i]) A = none → askT A (thingOf xl[i]) = (A.length, A ++ [thingOf xl[i]]) := askT_none
    generalize hax : askT A (thingOf xl[i]) = ax at step same hal hidx hjl hin hno
    obtain ⟨j, A'⟩ := ax
    try dsimp only at step same hal hidx hjl
    refine told04T_spec (by decide) xm lay' (by omega) (by omega) (by omega) fun q6 m6 xm6 => ⟨_, rfl, ?_⟩
    rw [hax] at xm6 ⊢
    try dsimp only at xm6 ⊢
    replace m := m.step m6 (by simp)
    replace bx := bx.mv m6 (by simp)
    replace xo := xo.mv m6 (by simp) (by simp)
    replace oo := oo.mv m6 (by simp)
    rw [zTag]
    refine new_C q6 7 fun pt q7 m7 bt => ?_
    replace m := m.step m7 (by simp)
    replace bx := bx.mv m7 (by simp)
    replace xo := xo.mv m7 (by simp) (by simp)
    replace xm6 := xm6.mv m7 (by simp) (by simp)
    replace oo := oo.mv m7 (by simp)
    refine storeTag_C (numT_length _) bt fun q8 m8 bt => ?_
    replace m := m.step m8 (by simp)
    replace bx := bx.mv m8 (by simp)
    replace xo := xo.mv m8 (by simp) (by simp)
    replace xm6 := xm6.mv m8 (by simp) (by simp)
    replace oo := oo.mv m8 (by simp)
    refine loopW_rule (fun st h' => ∃ (k : Nat) (f : Bool) (q : GH), k ≤ i ∧ st = (f, (k : Int)) ∧ h' = q.h ∧ (f = true ↔ ∀ (k' : Nat) (b : AskT), k' < k → xl[k']? = some b → ¬ thingOf b = thingOf xl[i]) ∧ Mv KFr g.base q ∧ BlkC q 1 px #[.int .i64 x.what, slV vk, slV vr, .int .i64 x.num] T.zugzwanglaw04_Ask ∧ MakC q 2 3 pm false [] A' ∧ MakC q 4 5 po false seed A ∧ OwnF T.api_Tag ShTag q 6 so outs ∧ BlkC q 7 pt (tagA (numT (j : Int))) T.api_Tag)
        (fun st => i - st.2.toNat) ⟨0, true, q8, by omega, rfl, rfl, by simp, m, bx, xm6, xo, oo, bt⟩ ?_
    clear m m6 m7 m8 bx xm6 xo oo bt rc xm lay'
    rintro Y _ _ ⟨k, f, q, hk, rfl, rfl, hf, m, bx, xm, xo, oo, bt⟩ hY
    try dsimp only
    by_cases hkt : k < i
    · rw [if_pos (by simp; omega)]
      have hkl : k < xl.length := by omega
      have hko : k < outs.length := by rw [fr.len]; exact hkt
      refine (oo.slc rfl (by rw [fr.len]; omega)).idxF rfl szTag (by decide) hko fun b1 o1 c1 okt l1 => ?_
      refine (hl.arg m (by simp)).idx (sizeAsk.trans rfl) (by decide) hkl fun b2 o2 cs2 rc2 lay2 => ?_
      have okK := AskOk.of lay2
      refine (hl.arg m (by simp)).idx (sizeAsk.trans rfl) (by decide) hlt fun b3 o3 cs3 rc3 lay3 => ?_
      refine loadF (s := ShTag) c1 szTag (by decide) l1 ?_
      refine loadAgg_whole bt (tagA_size (numT_length _)) ?_
      rw [← tagEnc]
      have htb := okTagB okt
      refine tag_eq htb.1 htb.2 (numT_length _) (numT_byte _) ?_
      obtain ⟨vk2, vr2, rfl, _, _, _, _⟩ := LayC.ask lay2
      obtain ⟨vk3, vr3, rfl, _, _, _, _⟩ := LayC.ask lay3
      refine loadAggK_cells rc2 (j := 0) rfl (by first | omega | (rw [sizeAsk]; omega)) (by first | (rw [sizeAsk]; simp) | simp) ?_
      refine loadAggK_cells rc3 (j := 0) rfl (by first | omega | (rw [sizeAsk]; omega)) (by first | (rw [sizeAsk]; simp) | simp) ?_
      try rw [sizeAsk]
      have hgk := sz hkl
      refine alike_spec lay2 lay3 (by omega) (by omega) fun q9 m9 => ⟨_, rfl, ?_⟩
      replace m := m.step m9 (by simp)
      replace bx := bx.mv m9 (by simp)
      replace xo := xo.mv m9 (by simp) (by simp)
      replace xm := xm.mv m9 (by simp) (by simp)
      replace oo := oo.mv m9 (by simp)
      replace bt := bt.mv m9 (by simp)
      refine ⟨stillAgg_whole bt (tagA_size (numT_length _)), ?_, ?_⟩
      · rw [tagEnc]
        exact stillF (s := ShTag) (c1.mv m9 (by simp)) szTag (by decide) l1
      have hsm := same hkt (List.getElem?_eq_getElem hkl) (List.getElem?_eq_getElem hko)
      have hal := alikeT_iff okK okI
      have heq : decide (outs[k] = numT (j : Int)) = alikeT xl[k] xl[i] := by
        cases hb : alikeT xl[k] xl[i] with
        | true => exact decide_eq_true (hsm.2 (hal.1 hb))
        | false => exact decide_eq_false fun e => by rw [hal.2 (hsm.1 e)] at hb; cases hb
      try dsimp only
      rw [heq, if_neg (by simp)]
      have hf' : ((f && !alikeT xl[k] xl[i]) = true ↔ ∀ (k' : Nat) (b : AskT), k' < k + 1 → xl[k']? = some b → ¬ thingOf b = thingOf xl[i]) := by
        constructor
        · intro h k' b hk' hb
          have h1 : f = true := by cases f <;> simp_all
          have h2 : alikeT xl[k] xl[i] = false := by cases hb : alikeT xl[k] xl[i] <;> simp_all
          by_cases e : k' = k
          · subst e
            rw [List.getElem?_eq_getElem hkl] at hb
            cases hb
            intro e
            rw [hal.2 e] at h2
            cases h2
          · exact hf.1 h1 k' b (by omega) hb
        · intro h
          have h1 : f = true := hf.2 fun k' b hk' hb => h k' b (by omega) hb
          have h2 : alikeT xl[k] xl[i] = false := by
            cases hb : alikeT xl[k] xl[i] with
            | false => rfl
            | true => exact absurd (hal.1 hb) (h k _ (by omega) (List.getElem?_eq_getElem hkl))
          rw [h1, h2]; rfl
      by_cases hft : f = true
      · rw [if_pos hft]
        refine (hl.arg m (by simp)).idx (sizeAsk.trans rfl) (by decide) hkl fun b2 o2 cs2 rc2 lay2 => ?_
        refine (hl.arg m (by simp)).idx (sizeAsk.trans rfl) (by decide) hlt fun b3 o3 cs3 rc3 lay3 => ?_
        obtain ⟨vk2, vr2, rfl, _, _, _, _⟩ := LayC.ask lay2
        obtain ⟨vk3, vr3, rfl, _, _, _, _⟩ := LayC.ask lay3
        refine loadAggK_cells rc2 (j := 0) rfl (by first | omega | (rw [sizeAsk]; omega)) (by first | (rw [sizeAsk]; simp) | simp) ?_
        refine loadAggK_cells rc3 (j := 0) rfl (by first | omega | (rw [sizeAsk]; omega)) (by first | (rw [sizeAsk]; simp) | simp) ?_
        try rw [sizeAsk]
        refine alike_spec lay2 lay3 (by omega) (by omega) fun q10 m10 => ⟨_, rfl, ?_⟩
        rw [wrapSucc (by omega)]
        rw [hft, Bool.true_and] at hf'
        exact hY _ _ ⟨k + 1, _, q10, by omega, rfl, rfl, hf', m.step m10 (by simp), bx.mv m10 (by simp), xm.mv m10 (by simp) (by simp), xo.mv m10 (by simp) (by simp), oo.mv m10 (by simp), bt.mv m10 (by simp)⟩ (by simp; omega)
      · rw [if_neg hft, wrapSucc (by omega)]
        have hff : f = false := by simpa using hft
        rw [hff, Bool.false_and] at hf'
        exact hY _ _ ⟨k + 1, false, q9, by omega, rfl, rfl, hf', m, bx, xm, xo, oo, bt⟩ (by simp; omega)
    · rw [if_neg (by simp; omega)]
      have hki : k = i := by omega
      subst hki
      rw [frsh] at hf
      refine joinW_intro (fun s h' => s = (A'.length : Int) ∧ h' = q.h) ?_ ?_
      · intro J hJ
        by_cases hft : f = true
        · rw [if_pos hft, wrapSucc (by omega)]
          have := hno (hf.1 hft)
          cases this
          exact hJ _ _ ⟨by simp, rfl⟩
        · rw [if_neg hft]
          have hnn : ¬ idxIn (thingOf xl[k]) A = none := fun e => hft (hf.2 e)
          obtain ⟨j', hj'⟩ := Option.ne_none_iff_exists'.1 hnn
          have := hin j' hj'
          cases this
          exact hJ _ _ ⟨rfl, rfl⟩
      rintro _ _ ⟨rfl, rfl⟩
      refine (hl.arg m (by simp)).idx (sizeAsk.trans rfl) (by decide) hlt fun b2 o2 cs2 rc2 lay2 => ?_
      obtain ⟨vk2, vr2, rfl, _, _, _, _⟩ := LayC.ask lay2
      refine loadAggK_cells rc2 (j := 0) rfl (by first | omega | (rw [sizeAsk]; omega)) (by first | (rw [sizeAsk]; simp) | simp) ?_
      try rw [sizeAsk]
      refine loadAgg_whole bt (tagA_size (numT_length _)) ?_
      refine told04T_spec (by decide) xo lay2 (by omega) (by omega) (by omega) fun q9 m9 xo => ⟨_, rfl, ?_⟩
      rw [hax] at xo ⊢
      try dsimp only at xo ⊢
      replace m := m.step m9 (by simp)
      replace bx := bx.mv m9 (by simp)
      replace xm := xm.mv m9 (by simp) (by simp)
      replace oo := oo.mv m9 (by simp)
      replace bt := bt.mv m9 (by simp)
      refine ⟨stillAgg_whole bt (tagA_size (numT_length _)), ?_⟩
      refine tag_neq (numT_length _) (numT_byte _) (numT_length _) (numT_byte _) ?_
      rw [if_neg (by simp)]
      refine loadAgg_whole bt (tagA_size (numT_length _)) ?_
      refine told_spec xm _ (numT_length _) (numT_byte _) fun q10 m10 => ⟨_, rfl, ?_⟩
      rw [toldT_num (by omega)]
      try dsimp only
      rw [decide_eq_true hjl, if_neg (by simp)]
      replace m := m.step m10 (by simp)
      replace bx := bx.mv m10 (by simp)
      replace xm := xm.mv m10 (by simp) (by simp)
      replace xo := xo.mv m10 (by simp) (by simp)
      replace oo := oo.mv m10 (by simp)
      replace bt := bt.mv m10 (by simp)
      refine sliceArr_C 0 32 rfl rfl (by decide) ?_
      have rt : RdC 1 q10 7 ⟨some ⟨pt, 0 + 0 * sizeOfT Try.prog T.uint8, none⟩, 32 - 0, 32 - 0⟩ ((numT (j : Int)).map byV) := by
        refine ⟨⟨by simp [numT_length], .inr ⟨pt, 0, _, _, _, by simp, bt.blk, fun i hi => ?_⟩⟩, .inr ⟨pt, rfl, lt_of_get bt.blk, bt.col⟩⟩
        simp
      refine tagsMark_spec (mx.mv m (by simp)) rt (Nat.le_refl _) (numT_byte _) (by rw [numT_length]; omega) fun q11 m11 => ⟨_, rfl, ?_⟩
      rw [markT_num]
      try dsimp only
      rw [if_neg (by simp)]
      replace m := m.step m11 (by simp)
      replace bx := bx.mv m11 (by simp)
      replace xm := xm.mv m11 (by simp) (by simp)
      replace xo := xo.mv m11 (by simp) (by simp)
      replace oo := oo.mv m11 (by simp)
      replace bt := bt.mv m11 (by simp)
      refine len_spec xm ⟨_, rfl, ?_⟩
      try dsimp only
      rw [if_neg (by simp)]
      refine loadAgg_whole bt (tagA_size (numT_length _)) ?_
      rw [tagEnc]
      refine mkTag_C q11 11 (okNum _) fun s12 q12 m12 o12 _ => ?_
      have hl12 := o12.len
      have hoo := oo.len
      rw [fr.len] at hoo
      refine appendTags_C (oo.mv m12 (by simp)) (o12.slc rfl (by simp)) (by simp at hl12; omega) fun s13 q13 m13 o13 => ?_
      rw [wrapSucc (by omega)]
      have M := (m.step m12 (by simp)).step m13 (by simp)
      exact hX _ _ ⟨k + 1, q13, A', s13, _, by omega, rfl, rfl, M, (bx.mv m12 (by simp)).mv m13 (by simp), (xm.mv m12 (by simp) (by simp)).mv m13 (by simp) (by simp), (xo.mv m12 (by simp) (by simp)).mv m13 (by simp) (by simp), o13, step⟩ (by simp; omega)
  · rw [if_neg (by simp; omega)]
    have hi' : i = xl.length := by omega
    subst hi'
    have b1 : x.key.length ≤ 70000000 := by omega
    have b2 : total x.rows ≤ 70000000 := by omega
    have b3 : x.rows.length ≤ 10000000 := by omega
    refine makCopy_spec xm 8 9 fun pc q6 m6 xc => ⟨_, rfl, ?_⟩
    replace m := m.step m6 (by simp)
    replace bx := bx.mv m6 (by simp)
    replace xm := xm.mv m6 (by simp) (by simp)
    replace xo := xo.mv m6 (by simp) (by simp)
    replace oo := oo.mv m6 (by simp)
    refine loadAgg_whole bx (by try rw [sizeAsk]; rfl) ?_
    have hal := askT_len A (thingOf x)
    have hidx := askT_idx A (thingOf x)
    have hjl := idxIn_lt hidx
    have hsin := askT_since A (thingOf x)
    have hin : ∀ j : Nat, idxIn (thingOf x) A = some j → askT A (thingOf x) = (j, A) := fun j h => askT_there h
    have hno : idxIn (thingOf x) A = none → askT A (thingOf x) = (A.length, A ++ [thingOf x]) := askT_none
    generalize hax : askT A (thingOf x) = ax at hal hidx hjl hsin hin hno
    obtain ⟨j, A'⟩ := ax
    try dsimp only at hal hidx hjl hsin
    refine told04T_spec (by decide) xc (LayC.arg m (by simp) lay) b1 b2 b3 fun q7 m7 xc => ⟨_, rfl, ?_⟩
    rw [hax] at xc ⊢
    try dsimp only at xc ⊢
    replace m := m.step m7 (by simp)
    replace bx := bx.mv m7 (by simp)
    replace xm := xm.mv m7 (by simp) (by simp)
    replace xo := xo.mv m7 (by simp) (by simp)
    replace oo := oo.mv m7 (by simp)
    rw [zTag]
    refine new_C q7 10 fun pa q8 m8 ba => ?_
    replace m := m.step m8 (by simp)
    replace bx := bx.mv m8 (by simp)
    replace xm := xm.mv m8 (by simp) (by simp)
    replace xo := xo.mv m8 (by simp) (by simp)
    replace xc := xc.mv m8 (by simp) (by simp)
    replace oo := oo.mv m8 (by simp)
    refine storeTag_C (numT_length _) ba fun q9 m9 ba => ?_
    replace m := m.step m9 (by simp)
    replace bx := bx.mv m9 (by simp)
    replace xm := xm.mv m9 (by simp) (by simp)
    replace xo := xo.mv m9 (by simp) (by simp)
    replace xc := xc.mv m9 (by simp) (by simp)
    replace oo := oo.mv m9 (by simp)
    refine len_spec xm ⟨_, rfl, ?_⟩
    try dsimp only
    rw [if_neg (by simp)]
    refine loadAgg_whole ba (tagA_size (numT_length _)) ?_
    refine told_spec xm _ (numT_length _) (numT_byte _) fun q10 m10 => ⟨_, rfl, ?_⟩
    rw [toldT_num (by omega)]
    replace m := m.step m10 (by simp)
    replace bx := bx.mv m10 (by simp)
    replace xm := xm.mv m10 (by simp) (by simp)
    replace xo := xo.mv m10 (by simp) (by simp)
    replace xc := xc.mv m10 (by simp) (by simp)
    replace oo := oo.mv m10 (by simp)
    replace ba := ba.mv m10 (by simp)
    refine len_spec xc ⟨_, rfl, ?_⟩
    try dsimp only
    have hcn : decide (j < A.length) = ((A'.length : Int) == (A.length : Int)) := by
      cases hq : idxIn (thingOf x) A with
      | some j' =>
        have := hin j' hq
        cases this
        have := idxIn_lt hq
        simp [this]
      | none =>
        have := hno hq
        cases this
        simp
        omega
    rw [hcn, if_neg (by simp)]
    refine loadAgg_whole bx (by try rw [sizeAsk]; rfl) ?_
    refine loadAgg_whole ba (tagA_size (numT_length _)) ?_
    refine told04T_spec (by decide) xo (LayC.arg m (by simp) lay) b1 b2 b3 fun q11 m11 xo => ⟨_, rfl, ?_⟩
    rw [hax] at xo ⊢
    try dsimp only at xo ⊢
    replace m := m.step m11 (by simp)
    replace bx := bx.mv m11 (by simp)
    replace xm := xm.mv m11 (by simp) (by simp)
    replace xc := xc.mv m11 (by simp) (by simp)
    replace oo := oo.mv m11 (by simp)
    replace ba := ba.mv m11 (by simp)
    refine ⟨stillAgg_whole ba (tagA_size (numT_length _)), ?_⟩
    refine tag_neq (numT_length _) (numT_byte _) (numT_length _) (numT_byte _) ?_
    rw [if_neg (by simp)]
    refine loopW_rule (fun st h' => ∃ (k : Nat) (q : GH), k ≤ xl.length ∧ st = (k : Int) ∧ h' = q.h ∧ Mv KFr g.base q ∧ BlkC q 1 px #[.int .i64 x.what, slV vk, slV vr, .int .i64 x.num] T.zugzwanglaw04_Ask ∧ MakC q 2 3 pm false [] A ∧ MakC q 8 9 pc false [] A' ∧ OwnF T.api_Tag ShTag q 6 so outs ∧ BlkC q 10 pa (tagA (numT (j : Int))) T.api_Tag)
        (fun st => xl.length - st.toNat) ⟨0, q11, by omega, rfl, rfl, m, bx, xm, xc, oo, ba⟩ ?_
    clear m m6 m7 m8 m9 m10 m11 bx xm xc xo oo ba
    rintro Y _ _ ⟨k, q, hk, rfl, rfl, m, bx, xm, xc, oo, ba⟩ hY
    try dsimp only
    by_cases hkt : k < xl.length
    · rw [if_pos (by simp; omega)]
      have hko : k < outs.length := by rw [fr.len]; exact hkt
      have hgk := sz hkt
      have hg1 : size04 xl[k] = xl[k].key.length + xl[k].rows.length + total xl[k].rows := rfl
      obtain ⟨jk, h1, h2⟩ := fr.at_ k _ hkt (List.getElem?_eq_getElem hkt)
      rw [List.getElem?_eq_getElem hko] at h2
      have h2' := Option.some.inj h2
      refine (hl.arg m (by simp)).idx (sizeAsk.trans rfl) (by decide) hkt fun b2 o2 cs2 rc2 lay2 => ?_
      obtain ⟨vk2, vr2, rfl, _, _, _, _⟩ := LayC.ask lay2
      refine (oo.slc rfl (by rw [fr.len]; omega)).idxF rfl szTag (by decide) hko fun b1 o1 c1 okt l1 => ?_
      refine loadAggK_cells rc2 (j := 0) rfl (by first | omega | (rw [sizeAsk]; omega)) (by first | (rw [sizeAsk]; simp) | simp) ?_
      try rw [sizeAsk]
      refine loadF (s := ShTag) c1 szTag (by decide) l1 ?_
      refine told04T_spec (by decide) xc lay2 (by omega) (by omega) (by omega) fun q12 m12 xc => ⟨_, rfl, ?_⟩
      have c1' := c1.mv m12 (by simp)
      rw [askT_there (hsin.idx h1)] at xc ⊢
      try dsimp only at xc ⊢
      refine ⟨stillF (s := ShTag) c1' szTag (by decide) l1, ?_⟩
      rw [h2', ← tagEnc]
      refine tag_neq (numT_length _) (numT_byte _) (numT_length _) (numT_byte _) ?_
      rw [if_neg (by simp)]
      replace m := m.step m12 (by simp)
      replace bx := bx.mv m12 (by simp)
      replace xm := xm.mv m12 (by simp) (by simp)
      replace oo := oo.mv m12 (by simp)
      replace ba := ba.mv m12 (by simp)
      refine (hl.arg m (by simp)).idx (sizeAsk.trans rfl) (by decide) hkt fun b2 o2 cs2 rc2 lay2 => ?_
      obtain ⟨vk2, vr2, rfl, _, _, _, _⟩ := LayC.ask lay2
      refine (oo.slc rfl (by rw [fr.len]; omega)).idxF rfl szTag (by decide) hko fun b1 o1 c1 okt l1 => ?_
      refine loadAggK_cells rc2 (j := 0) rfl (by first | omega | (rw [sizeAsk]; omega)) (by first | (rw [sizeAsk]; simp) | simp) ?_
      try rw [sizeAsk]
      refine loadF (s := ShTag) c1 szTag (by decide) l1 ?_
      refine told04T_spec (by decide) xm lay2 (by omega) (by omega) (by omega) fun q13 m13 xm => ⟨_, rfl, ?_⟩
      have c1' := c1.mv m13 (by simp)
      rw [askT_there h1] at xm ⊢
      try dsimp only at xm ⊢
      refine ⟨stillF (s := ShTag) c1' szTag (by decide) l1, ?_⟩
      rw [h2', ← tagEnc]
      refine tag_neq (numT_length _) (numT_byte _) (numT_length _) (numT_byte _) ?_
      rw [if_neg (by simp), wrapSucc (by omega)]
      exact hY _ _ ⟨k + 1, q13, by omega, rfl, rfl, m.step m13 (by simp), bx.mv m13 (by simp), xm, xc.mv m13 (by simp) (by simp), oo.mv m13 (by simp), ba.mv m13 (by simp)⟩ (by simp; omega)
    · rw [if_neg (by simp; omega)]
      refine loadAgg_whole bx (by try rw [sizeAsk]; rfl) ?_
      refine loadAgg_whole ba (tagA_size (numT_length _)) ?_
      refine told04T_spec (by decide) xm (LayC.arg m (by simp) lay) b1 b2 b3 fun q12 m12 xm => ⟨_, rfl, ?_⟩
      rw [hax]
      try dsimp only
      refine ⟨stillAgg_whole (ba.mv m12 (by simp)) (tagA_size (numT_length _)), ?_⟩
      refine tag_eq (numT_length _) (numT_byte _) (numT_length _) (numT_byte _) ?_
      rw [decide_eq_true rfl]
      exact fin q12 (m.step m12 (by simp))

theorem TagsFresh_walk {h : Heap} (mx : MaxC ⟨h, fun _ => 0⟩ 0) (a : Option Addr) (la ca : Nat) (x : List AskT) (w : Lay h (.sl ShAsk) x [.slice a la ca]) (b : Option Addr) (lb cb : Nat) (y : List Int) (w' : Lay h (.sl (.int .u8)) y [.slice b lb cb]) (t : Array Value) (z : AskT) (w2 : Lay h ShAsk z t.toList) :
    HC Try.prog F.law04_TagsFresh #[.slice a la ca, .slice b lb cb, .agg t] (fun v h' => v = .bool true ∧ Ext h h') h :=
  TagsFresh_spec ⟨h, fun _ => 0⟩ mx ⟨a, la, ca⟩ x (w.arg (Mv.refl [] _) (by simp)) ⟨b, lb, cb⟩ y (w'.arg (Mv.refl [] _) (by simp)) t z (w2.arg (Mv.refl [] _) (by simp)) fun g' m => ⟨rfl, m.ext (by simp)⟩
end Go.Proofs.Ytgdkaljbjhbeiaa
