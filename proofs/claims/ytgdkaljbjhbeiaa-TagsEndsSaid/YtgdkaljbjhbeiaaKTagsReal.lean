/-
  The statement TagsReal.
-/
import Derived.Test.YtgdkaljbjhbeiaaKLaw04
set_option linter.unusedSimpArgs false
set_option linter.unusedVariables false
namespace Go.Proofs.Ytgdkaljbjhbeiaa
open Go Go.Ev

theorem zAsk : zerosOf Try.prog T.zugzwanglaw04_Ask = #[.int .i64 0, .slice none 0 0, .slice none 0 0, .int .i64 0] := by kernel_rfl
theorem buildSl_Ask (a b : Int) (v w : Sl) (W : World) : (Instr.buildSlice T.sl_zugzwanglaw04_Ask 1 #[(0, .agg #[.int .i64 a, slV v, slV w, .int .i64 b])]).run Try.prog W =
    .ok (.slice (some ⟨W.heap.size, 0, none⟩) 1 1) { W with heap := W.heap.push (.cells #[.int .i64 a, slV v, slV w, .int .i64 b] T.zugzwanglaw04_Ask (0, 0)) } := by kernel_rfl
theorem tellR_byte (seed : List Int) (a : AskT) : ∀ x ∈ tellR seed a, isByte x := by
  unfold tellR
  split
  · exact shaB_byte _
  · split
    · exact macB_byte _ _
    · exact shaB_byte _
theorem sizes04_get {l : List AskT} {i : Nat} (h : i < l.length) : size04 l[i] ≤ sizes04 l := by
  have := le_of_mem_sum (List.mem_map_of_mem (f := size04) (List.getElem_mem h))
  unfold sizes04
  omega
theorem sizes04_one (a : AskT) : sizes04 [a] = 1 + size04 a := by simp [sizes04]

/-- The same, its rows as one. -/
def joinA (a : AskT) : AskT := (a.what, a.key, [a.rows.flatten, []], a.num, ())
theorem tellR_join (seed : List Int) (a : AskT) : tellR seed (joinA a) = tellR seed a := by
  unfold tellR joinA
  simp [AskT.what, AskT.rows, AskT.key, AskT.num]
theorem tellR_bare (seed : List Int) (a : AskT) (h : ¬ a.what % 3 = 2) : tellR [] a = tellR seed a := by
  unfold tellR
  by_cases h0 : a.what % 3 = 0
  · rw [if_pos h0, if_pos h0]
  · have h1 : a.what % 3 = 1 := by omega
    rw [if_neg h0, if_neg h0, if_pos h1, if_pos h1]
theorem toldT_nil (t : List Int) : toldT [] t = false := by
  unfold toldT
  by_cases h : toldN t ≥ 0
  · have : ¬ toldN t < ((List.length ([] : List ShThing.T) : Nat) : Int) := by simp; omega
    simp only [this, decide_false, Bool.and_false, Bool.false_and]
  · simp only [h, decide_false, Bool.false_and]

set_option maxHeartbeats 2000000 in
set_option maxRecDepth 20000 in
theorem TagsReal_spec (g : GH) (l : Sl) (xl : List AskT) (hl : SlC g 0 ShAsk l xl) (sd : Sl) (seed : List Int) (hsd : SlC g 0 (.int .u8) sd seed) (cs : Array Value) (x : AskT) (lay : LayC g 0 ShAsk x cs.toList)
    {R : Value → Heap → Prop} (H : ∀ g' : GH, Mv [] g g' → R (.bool true) g'.h) : HC Try.prog F.law04_TagsReal #[.slice l.a l.n l.c, .slice sd.a sd.n sd.c, .agg cs] R g.h := by
  refine law04_TagsReal.calls (l0 := l) (seed1 := sd) ?_
  unfold law04_TagsReal.body
  obtain ⟨cl⟩ := cs
  obtain ⟨vk, vr, e0, hk, hr, hw, hn⟩ := LayC.ask lay
  dsimp only at e0
  subst e0
  have m := Mv.refl [1, 2, 3, 4] g.base
  refine new_C g.base 1 fun px q1 m1 bx => ?_
  replace m := m.step m1 (by simp)
  refine awake04_spec q1 fun q2 m2 => ⟨_, rfl, ?_⟩
  replace m := m.step m2 (by simp)
  replace bx := bx.mv m2 (by simp)
  dsimp only
  rw [if_neg (by simp)]
  have hsn := hsd.len
  have hss := hsd.small
  refine joinW_intro (fun _ h' => ∃ q : GH, h' = q.h ∧ Mv [1, 2, 3, 4] g.base q ∧ BlkC q 1 px #[.int .i64 x.what, slV vk, slV vr, .int .i64 x.num] T.zugzwanglaw04_Ask ∧ sizes04 xl + seed.length + sizes04 [x] ≤ 400) ?_ ?_
  · intro J hJ
    refine loadAgg_whole bx (by rw [sizeAsk]; rfl) ?_
    have yes : ∀ q : GH, Mv [1, 2, 3, 4] g.base q → R (.bool true) q.h := fun q m => H (g.via q fun _ => 0) (m.via (by simp) _)
    have fin : ∀ (q : GH) (n1 n2 : Nat), Mv [] q2 q → n1 ≤ 10000000000000000 → (n1 ≤ 400 → sizes04 xl ≤ n1) → n2 ≤ 10000000000000000 → (n2 ≤ 400 → sizes04 [x] ≤ n2) →
        if (decide ((IntKind.i64.wrap ((IntKind.i64.wrap ((n1 : Int) + ((sd.n : Int)))) + (n2 : Int))) > 400)) = true then R (.bool true) q.h else J () q.h := by
      intro q n1 n2 mq h1 h2 h3 h4
      rw [wrapI64 (n := (n1 : Int) + (sd.n : Int)) (by omega) (by omega), wrapI64 (by omega) (by omega)]
      by_cases hc : (n1 : Int) + (sd.n : Int) + (n2 : Int) > 400
      · rw [if_pos (by simpa using hc)]
        exact yes q (m.step mq (by simp))
      · rw [if_neg (by simpa using hc)]
        have := h2 (by omega)
        have := h4 (by omega)
        exact hJ _ _ ⟨q, rfl, m.step mq (by simp), bx.mv mq (by simp), by omega⟩
    have one : ∀ (q : GH) (s : Sl), Mv [1, 2, 3, 4] g.base q → OwnC T.zugzwanglaw04_Ask 4 q 0 s [.int .i64 x.what, slV vk, slV vr, .int .i64 x.num] → s.n = 1 → s.c = 1 → SlC q 0 ShAsk s [x] := fun q s mq o h1 h2 =>
      SlC.one (s := ShAsk) (by omega) h1 o.rd (LayC.arg mq (by simp) lay)
    refine ⟨?_, ?_⟩
    · refine size04_spec l xl (hl.arg m (by simp)) fun n1 h1 h2 => ⟨_, rfl, ?_⟩
      refine ⟨stillAgg_whole bx (by rw [sizeAsk]; rfl), ?_⟩
      refine buildSl_C (e := T.zugzwanglaw04_Ask) (sz := 4) q2 0 _ (buildSl_Ask _ _ _ _) rfl fun s q3 m3 o3 hn3 hc3 => ?_
      refine size04_spec s [x] (one q3 s (m.step m3 (by simp)) o3 hn3 hc3) fun n2 h3 h4 => ⟨_, rfl, ?_⟩
      exact fin q3 n1 n2 m3 h1 h2 h3 h4
    · refine buildSl_C (e := T.zugzwanglaw04_Ask) (sz := 4) q2 0 _ (buildSl_Ask _ _ _ _) rfl fun s q3 m3 o3 hn3 hc3 => ?_
      refine size04_spec l xl (hl.arg (m.step m3 (by simp)) (by simp)) fun n1 h1 h2 => ⟨_, rfl, ?_⟩
      refine size04_spec s [x] (one q3 s (m.step m3 (by simp)) o3 hn3 hc3) fun n2 h3 h4 => ⟨_, rfl, ?_⟩
      exact fin q3 n1 n2 m3 h1 h2 h3 h4
  · clear m m1 m2 bx
    rintro _ _ ⟨q3, rfl, m, bx, hsz⟩
    have hsx := sizes04_one x
    have hs1 : size04 x = x.key.length + x.rows.length + total x.rows := rfl
    have sdr : ∀ q : GH, Mv [1, 2, 3, 4] g.base q → RdC 1 q 0 sd (seed.map byV) := fun q m => hsd.ints.1.arg m (by simp)
    refine makNew_spec q3 2 2 true sd seed (sdr q3 m) (by omega) hsd.ints.2 fun p4 q4 m4 x4 => ⟨_, rfl, ?_⟩
    replace m := m.step m4 (by simp)
    replace bx := bx.mv m4 (by simp)
    refine makNew_spec q4 2 2 true sd seed (sdr q4 m) (by omega) hsd.ints.2 fun p5 q5 m5 x5 => ⟨_, rfl, ?_⟩
    replace m := m.step m5 (by simp)
    replace bx := bx.mv m5 (by simp)
    replace x4 := x4.mv m5 (by simp) (by simp)
    refine makNew_spec q5 2 2 true ⟨none, 0, 0⟩ [] (RdC.nil _ _ 0 _ _) (by simp) (by simp) fun p6 q6 m6 x6 => ⟨_, rfl, ?_⟩
    replace m := m.step m6 (by simp)
    replace bx := bx.mv m6 (by simp)
    replace x4 := x4.mv m6 (by simp) (by simp)
    replace x5 := x5.mv m6 (by simp) (by simp)
    have hln := hl.len
    refine loopW_rule (fun st h' => ∃ (i : Nat) (q : GH), i ≤ xl.length ∧ st = (i : Int) ∧ h' = q.h ∧ Mv [1, 2, 3, 4] g.base q ∧ BlkC q 1 px #[.int .i64 x.what, slV vk, slV vr, .int .i64 x.num] T.zugzwanglaw04_Ask ∧ MakC q 2 2 p4 true seed [] ∧ MakC q 2 2 p5 true seed [] ∧ MakC q 2 2 p6 true [] [])
      (fun st => xl.length - st.toNat) ⟨0, q6, by omega, rfl, rfl, m, bx, x4, x5, x6⟩ ?_
    clear m m4 m5 m6 bx x4 x5 x6
    rintro X _ _ ⟨i, q, hi, rfl, rfl, m, bx, x4, x5, x6⟩ hX
    try dsimp only
    by_cases hlt : i < xl.length
    · rw [if_pos (by first | omega | (simp [hln]; omega))]
      refine (hl.arg m (by simp)).idx (sizeAsk.trans rfl) (by decide) hlt fun b o cs rc lay' => ?_
      obtain ⟨vk', vr', rfl, hk', hr', _, _⟩ := LayC.ask lay'
      refine loadAggK_cells rc (j := 0) rfl (by rw [sizeAsk]; omega) (by rw [sizeAsk]; simp) ?_
      rw [sizeAsk]
      have hg := sizes04_get hlt
      have hg1 : size04 xl[i] = xl[i].key.length + xl[i].rows.length + total xl[i].rows := rfl
      refine told04_spec x4 lay' (by omega) (by omega) (by omega) fun q7 m7 => ⟨_, rfl, ?_⟩
      rw [wrapSucc (by have := hl.small; omega)]
      exact hX _ _ ⟨i + 1, q7, by omega, rfl, rfl, m.step m7 (by simp), bx.mv m7 (by simp), x4.mv m7 (by simp) (by simp), x5.mv m7 (by simp) (by simp), x6.mv m7 (by simp) (by simp)⟩ (by simp; omega)
    · rw [if_neg (by first | omega | (simp [hln]; omega))]
      clear hX
      have hlen := tellR_length seed x
      have hbyt := tellR_byte seed x
      have bd1 : x.key.length ≤ 70000000 := by omega
      have bd2 : total x.rows ≤ 70000000 := by omega
      have bd3 : x.rows.length ≤ 10000000 := by omega
      refine loadAgg_whole bx (by rw [sizeAsk]; rfl) ?_
      refine told04_spec x4 (LayC.arg m (by simp) lay) bd1 bd2 bd3 fun q7 m7 => ⟨_, rfl, ?_⟩
      replace m := m.step m7 (by simp)
      replace bx := bx.mv m7 (by simp)
      replace x4 := x4.mv m7 (by simp) (by simp)
      replace x5 := x5.mv m7 (by simp) (by simp)
      replace x6 := x6.mv m7 (by simp) (by simp)
      rw [zTag]
      refine new_C q7 3 fun pt q8 m8 bt => ?_
      replace m := m.step m8 (by simp)
      replace bx := bx.mv m8 (by simp)
      replace x4 := x4.mv m8 (by simp) (by simp)
      replace x5 := x5.mv m8 (by simp) (by simp)
      replace x6 := x6.mv m8 (by simp) (by simp)
      refine storeTag_C hlen bt fun q9 m9 bt => ?_
      replace m := m.step m9 (by simp)
      replace bx := bx.mv m9 (by simp)
      replace x4 := x4.mv m9 (by simp) (by simp)
      replace x5 := x5.mv m9 (by simp) (by simp)
      replace x6 := x6.mv m9 (by simp) (by simp)
      refine loadAgg_whole bx (by rw [sizeAsk]; rfl) ?_
      rw [zAsk]
      refine new_C q9 4 fun py q10 m10 yb => ?_
      replace m := m.step m10 (by simp)
      replace bx := bx.mv m10 (by simp)
      replace bt := bt.mv m10 (by simp)
      replace x4 := x4.mv m10 (by simp) (by simp)
      replace x5 := x5.mv m10 (by simp) (by simp)
      replace x6 := x6.mv m10 (by simp) (by simp)
      refine storeAgg_C yb (by rw [sizeAsk]; rfl) (by rw [sizeAsk]; simp) (by simp [Value.oneCell', slV]) fun q11 m11 yb => ?_
      replace m := m.step m11 (by simp)
      replace bx := bx.mv m11 (by simp)
      replace bt := bt.mv m11 (by simp)
      replace x4 := x4.mv m11 (by simp) (by simp)
      replace x5 := x5.mv m11 (by simp) (by simp)
      replace x6 := x6.mv m11 (by simp) (by simp)
      rw [overA_all (by simp)] at yb
      rw [fldK_some, loadK_C bx]
      refine ⟨vr, rfl, ?_⟩
      refine Join02_spec q11 0 vr x.rows (hr.rows.1.arg m (by simp)) (by omega) (by omega) fun s12 q12 m12 o12 => ⟨_, rfl, ?_⟩
      refine newSl_C q12 0 rfl fun s13 q13 m13 o13 hn13 hc13 => ?_
      have m12' : Mv [] q11 q13 := m12.step m13 (by simp)
      replace m := m.step m12' (by simp)
      replace bx := bx.mv m12' (by simp)
      replace bt := bt.mv m12' (by simp)
      replace yb := yb.mv m12' (by simp)
      replace x4 := x4.mv m12' (by simp) (by simp)
      replace x5 := x5.mv m12' (by simp) (by simp)
      replace x6 := x6.mv m12' (by simp) (by simp)
      rw [fldK_some]
      refine store_C yb (by simp) rfl fun q14 m14 yb => ?_
      replace m := m.step m14 (by simp)
      replace bx := bx.mv m14 (by simp)
      replace bt := bt.mv m14 (by simp)
      replace x4 := x4.mv m14 (by simp) (by simp)
      replace x5 := x5.mv m14 (by simp) (by simp)
      replace x6 := x6.mv m14 (by simp) (by simp)
      have hrows := hr.rows.2.1
      have hflat : ∀ v ∈ x.rows.flatten, isByte v := fun v hv => by
        obtain ⟨r, hr, hv⟩ := List.mem_flatten.1 hv
        exact hrows r hr v hv
      have hfl : x.rows.flatten.length = total x.rows := rfl
      have l12 : SlC q14 0 (.int .u8) s12 x.rows.flatten := SlC.ofInts ((o12.rd.mv m13 (by simp)).mv m14 (by simp)) o12.cap (by omega) hflat
      have l13 : SlC q14 0 (.sl (.int .u8)) s13 [x.rows.flatten, []] := SlC.ofSls (sls := [s12, ⟨none, 0, 0⟩]) (o13.rd.mv m14 (by simp)) (by omega) (by simp) rfl
        (all2_cons l12 (all2_cons (SlC.nil _ _ _) all2_nil))
      have layY : LayC q14 0 ShAsk (joinA x) [.int .i64 x.what, slV vk, slV s13, .int .i64 x.num] :=
        ⟨[.int .i64 x.what], _, rfl, ⟨rfl, hw⟩, [slV vk], _, rfl, hk.arg m (by simp), [slV s13], _, rfl, l13, [.int .i64 x.num], [], rfl, ⟨rfl, hn⟩, rfl⟩
      refine loadAgg_whole bx (by rw [sizeAsk]; rfl) ?_
      refine loadAgg_whole bt (tagA_size hlen) ?_
      refine told04_spec x5 (LayC.arg m (by simp) lay) bd1 bd2 bd3 fun q15 m15 => ⟨_, rfl, ?_⟩
      replace m := m.step m15 (by simp)
      replace bx := bx.mv m15 (by simp)
      replace bt := bt.mv m15 (by simp)
      replace yb := yb.mv m15 (by simp)
      replace x4 := x4.mv m15 (by simp) (by simp)
      replace x6 := x6.mv m15 (by simp) (by simp)
      replace layY := layY.mv m15 (by simp)
      refine ⟨stillAgg_whole bt (tagA_size hlen), ?_⟩
      refine tag_eq hlen hbyt hlen hbyt ?_
      rw [if_pos (by simp)]
      refine loadAgg_whole yb (by rw [sizeAsk]; rfl) ?_
      refine loadAgg_whole bt (tagA_size hlen) ?_
      refine makCopy_spec x4 2 2 fun p7 q16 m16 x7 => ⟨_, rfl, ?_⟩
      replace m := m.step m16 (by simp)
      replace bx := bx.mv m16 (by simp)
      replace bt := bt.mv m16 (by simp)
      replace yb := yb.mv m16 (by simp)
      replace x4 := x4.mv m16 (by simp) (by simp)
      replace x6 := x6.mv m16 (by simp) (by simp)
      replace layY := layY.mv m16 (by simp)
      refine ⟨stillAgg_whole bt (tagA_size hlen), stillAgg_whole yb (by rw [sizeAsk]; rfl), ?_⟩
      refine told04_spec x7 layY bd1 (by show total [x.rows.flatten, []] ≤ _; simp [total] at bd2 ⊢; omega) (by show [x.rows.flatten, []].length ≤ _; simp) fun q17 m17 => ⟨_, rfl, ?_⟩
      replace m := m.step m17 (by simp)
      replace bx := bx.mv m17 (by simp)
      replace bt := bt.mv m17 (by simp)
      replace x4 := x4.mv m17 (by simp) (by simp)
      replace x6 := x6.mv m17 (by simp) (by simp)
      refine ⟨stillAgg_whole bt (tagA_size hlen), ?_⟩
      rw [tellR_join]
      refine tag_eq hlen hbyt hlen hbyt ?_
      rw [if_pos (by simp), fldK_some, loadK_C bx]
      refine ⟨x.what, rfl, ?_⟩
      refine Pick_spec _ _ hw (by omega) ⟨_, rfl, ?_⟩
      have yes : ∀ q : GH, Mv [1, 2, 3, 4] g.base q → R (.bool true) q.h := fun q m => H (g.via q fun _ => 0) (m.via (by simp) _)
      dsimp only
      by_cases h2 : x.what % 3 = 2
      · rw [if_pos (by simpa using h2)]
        refine len_spec x4 ⟨_, rfl, ?_⟩
        dsimp only
        rw [if_pos (by simp)]
        refine loadAgg_whole bt (tagA_size hlen) ?_
        refine told_spec x4 _ hlen hbyt fun q18 m18 => ⟨_, rfl, ?_⟩
        rw [toldT_nil]
        dsimp only
        rw [if_pos (by rfl)]
        exact real_spec (x4.mv m18 (by simp) (by simp)) ⟨_, rfl, yes q18 (m.step m18 (by simp))⟩
      · rw [if_neg (by simpa using h2)]
        refine loadAgg_whole bx (by rw [sizeAsk]; rfl) ?_
        refine loadAgg_whole bt (tagA_size hlen) ?_
        refine told04_spec x6 (LayC.arg m (by simp) lay) bd1 bd2 bd3 fun q19 m19 => ⟨_, rfl, ?_⟩
        replace m := m.step m19 (by simp)
        replace bt := bt.mv m19 (by simp)
        replace x4 := x4.mv m19 (by simp) (by simp)
        refine ⟨stillAgg_whole bt (tagA_size hlen), ?_⟩
        rw [tellR_bare seed x h2]
        refine tag_eq hlen hbyt hlen hbyt ?_
        rw [if_pos (by simp)]
        refine len_spec x4 ⟨_, rfl, ?_⟩
        dsimp only
        rw [if_pos (by simp)]
        refine loadAgg_whole bt (tagA_size hlen) ?_
        refine told_spec x4 _ hlen hbyt fun q18 m18 => ⟨_, rfl, ?_⟩
        rw [toldT_nil]
        dsimp only
        rw [if_pos (by rfl)]
        exact real_spec (x4.mv m18 (by simp) (by simp)) ⟨_, rfl, yes q18 (m.step m18 (by simp))⟩

theorem TagsReal_walk {h : Heap} (a : Option Addr) (la ca : Nat) (x : List AskT) (w : Lay h (.sl ShAsk) x [.slice a la ca]) (b : Option Addr) (lb cb : Nat) (y : List Int) (w' : Lay h (.sl (.int .u8)) y [.slice b lb cb]) (t : Array Value) (z : AskT) (w2 : Lay h ShAsk z t.toList) :
    HC Try.prog F.law04_TagsReal #[.slice a la ca, .slice b lb cb, .agg t] (fun v h' => v = .bool true ∧ Ext h h') h :=
  TagsReal_spec ⟨h, fun _ => 0⟩ ⟨a, la, ca⟩ x (w.arg (Mv.refl [] _) (by simp)) ⟨b, lb, cb⟩ y (w'.arg (Mv.refl [] _) (by simp)) t z (w2.arg (Mv.refl [] _) (by simp)) fun g' m => ⟨rfl, m.ext (by simp)⟩
end Go.Proofs.Ytgdkaljbjhbeiaa
