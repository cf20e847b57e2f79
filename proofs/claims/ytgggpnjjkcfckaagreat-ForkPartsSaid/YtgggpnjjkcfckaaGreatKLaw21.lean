/-
  Layer 21: rows that are linked, the chapter's examples, the document's answers.
-/
import Derived.Test.YtgggpnjjkcfckaaGreatKRef20
import Derived.Test.YtgggpnjjkcfckaaGreatKFork
set_option linter.unusedSimpArgs false
set_option linter.unusedVariables false
namespace Go.Proofs.YtgggpnjjkcfckaaGreat
open Go Go.Ev

def resign : BodyT := (4, move0, false, 0, zero32, zero32, ())
def accept : BodyT := (3, move0, false, 0, zero32, zero32, ())
theorem okResign : ShBody.ok resign := ⟨okI (by decide), okMove0, trivial, okI0, ok0, ok0, trivial⟩
theorem okAccept : ShBody.ok accept := ⟨okI (by decide), okMove0, trivial, okI0, ok0, ok0, trivial⟩
theorem goodResign : bodyOk resign = true := by kernel_rfl
theorem goodAccept : bodyOk accept = true := by kernel_rfl

def link1 (game : List Int) (es : List EntryT) (b : BodyT) : EntryT := if (next20 game es b).2 = 0 then (next20 game es b).1 else (next20 game es resign).1
def linkedT (game : List Int) (bs : List BodyT) : List EntryT := bs.foldl (fun es b => es ++ [link1 game es b]) []
theorem linkedT_length (game : List Int) (bs : List BodyT) : (linkedT game bs).length = bs.length := by
  have : ∀ (bs : List BodyT) (es : List EntryT), (bs.foldl (fun es b => es ++ [link1 game es b]) es).length = es.length + bs.length := by
    intro bs
    induction bs with
    | nil => intro es; rfl
    | cons b bs ih => intro es; rw [List.foldl_cons, ih]; simp; omega
  rw [linkedT, this]; simp
theorem okLink1 {game : List Int} (hg : ShTag.ok game) {es : List EntryT} (hl : es.length ≤ 1000000) {b : BodyT} (hb : ShBody.ok b) : ShEntry.ok (link1 game es b) := by
  unfold link1; split
  · exact okNext20 hg hl hb
  · exact okNext20 hg hl okResign
theorem linkedT_snoc (game : List Int) (bs : List BodyT) (b : BodyT) : linkedT game (bs ++ [b]) = linkedT game bs ++ [link1 game (linkedT game bs) b] := by
  simp [linkedT, List.foldl_append]

theorem build20 (pm : Nat) (game : List Int) (h : ShTag.ok game) (w : World) : (Instr.build T.zugzwangref20_Chain #[(0, .pointer (some ⟨pm, 0, none⟩)), (1, .agg ⟨ShTag.enc game⟩)]).run Tryz.prog w = .ok (.agg (chn20A pm game ⟨none, 0, 0⟩)) w := by
  refine build_struct (fs := structFs Tryz.prog T.zugzwangref20_Chain) (places := #[(0, 1), (1, 32), (33, 1)]) (by kernel_rfl) (z := ⟨[.pointer none] ++ (List.replicate 32 (.int .u8 0) ++ [slV ⟨none, 0, 0⟩])⟩) (fun w => by kernel_rfl) (fun w => by kernel_rfl) ?_ w
  rw [fillA_step (off := 0) (size := 1) rfl rfl (by simp)]
  have e1' : overA ⟨[.pointer none] ++ (List.replicate 32 (Value.int .u8 0) ++ [slV ⟨none, 0, 0⟩])⟩ 0 (Value.pointer (some ⟨pm, 0, none⟩)).cells.toList = ⟨[.pointer (some ⟨pm, 0, none⟩)] ++ (List.replicate 32 (Value.int .u8 0) ++ [slV ⟨none, 0, 0⟩])⟩ :=
    over_part [] [.pointer none] (List.replicate 32 (Value.int .u8 0) ++ [slV ⟨none, 0, 0⟩]) [.pointer (some ⟨pm, 0, none⟩)] rfl
  rw [e1', fillA_step (off := 1) (size := 32) rfl (by simpa [Value.cells] using lenTag h) (by simp)]
  have e2' : overA ⟨[.pointer (some ⟨pm, 0, none⟩)] ++ (List.replicate 32 (Value.int .u8 0) ++ [slV ⟨none, 0, 0⟩])⟩ 1 (Value.agg ⟨ShTag.enc game⟩).cells.toList = ⟨[.pointer (some ⟨pm, 0, none⟩)] ++ (ShTag.enc game ++ [slV ⟨none, 0, 0⟩])⟩ :=
    over_part [.pointer (some ⟨pm, 0, none⟩)] (List.replicate 32 (Value.int .u8 0)) [slV ⟨none, 0, 0⟩] (ShTag.enc game) (by simp [lenTag h])
  rw [e2']
  simp [fillA]

theorem real21_spec (g : GH) (c : Nat) {R : Value → Heap → Prop} (H : ∀ (p : Nat) (g' : GH), Mv [] g g' → MkR g' c p → R (.pointer (some ⟨p, 0, none⟩)) g'.h) : HC Tryz.prog F.law21_real #[] R g.h := by
  refine law21_real.calls ?_
  unfold law21_real.body
  refine ⟨#[.bool true, slV ⟨none, 0, 0⟩, slV ⟨none, 0, 0⟩], fun w => by kernel_rfl, ?_⟩
  refine new_C g c fun p q1 m1 b1 => ?_
  exact H p q1 m1 ⟨_, _, b1, rfl⟩

theorem szTagV : sizeOfT Tryz.prog T.api_Tag = 32 := szTag

set_option maxHeartbeats 1000000 in
theorem linked_spec (g : GH) (c : Nat) {d : Nat} (game : List Int) (hg : ShTag.ok game) (v : Sl) (bs : List BodyT) (hv : SlC g d ShBody v bs) (hl : bs.length ≤ 1000) {R : Value → Heap → Prop}
    (H : ∀ (s : Sl) (g' : GH), Mv [] g g' → OwnF T.api_Entry ShEntry g' c s (linkedT game bs) → R (.slice s.a s.n s.c) g'.h) : HC Tryz.prog F.law21_linked #[.agg ⟨ShTag.enc game⟩, .slice v.a v.n v.c] R g.h := by
  refine law21_linked.calls (l1 := v) ?_
  unfold law21_linked.body
  have m := Mv.refl [1, 2, 3, 4, 5, 6] g.base
  have hn := hv.len
  refine new_C g.base 1 fun pg q1 m1 b1 => ?_
  replace m := m.step m1 (by simp)
  refine loadTagAt (blkCells b1) hg ?_
  refine real21_spec q1 2 fun pm q2 m2 xr => ⟨_, rfl, ?_⟩
  replace m := m.step m2 (by simp)
  replace b1 := b1.mv m2 (by simp)
  refine ⟨stillF (s := ShTag) (blkCells b1) szTag (by decide) (lenTag hg), ?_⟩
  refine ⟨_, build20 pm game hg, ?_⟩
  refine new_C q2 3 fun p q3 m3 b3 => ?_
  replace m := m.step m3 (by simp)
  replace xr := xr.mv m3 (by simp)
  have x : Chn20 q3 3 4 p pm game [] := ⟨_, b3, OwnF.nil _ _ _ _, hg⟩
  refine loopW_rule (fun st h' => ∃ (i : Nat) (q : GH), i ≤ bs.length ∧ st = (i : Int) ∧ h' = q.h ∧ Mv [1, 2, 3, 4, 5, 6] g.base q ∧ MkR q 2 pm ∧ Chn20 q 3 4 p pm game (linkedT game (bs.take i))) (fun st => bs.length - st.toNat)
    ⟨0, q3, by omega, rfl, rfl, m, xr, by simpa [linkedT] using x⟩ ?_
  clear m m1 m2 m3 xr x
  rintro X _ _ ⟨i, q, hi, rfl, rfl, m, xr, x⟩ hX
  try dsimp only
  by_cases hlt : i < bs.length
  · rw [if_pos (by simp [hn]; omega)]
    have hvq : SlC q 0 ShBody v bs := hv.arg m (by simp)
    have okb := (hvq.rdF rfl).2 bs[i] (List.getElem_mem hlt)
    have hli : (linkedT game (bs.take i)).length ≤ 1000000 := by rw [linkedT_length]; simp; omega
    refine hvq.idxF rfl szBody (by decide) hlt fun b1 o1 c1 ok1 l1 => loadF c1 szBody (by decide) l1 ?_
    refine ref20Next_spec x xr hli bs[i] okb fun q4 m4 => ⟨(_, _), rfl, ?_⟩
    replace m := m.step m4 (by simp)
    replace xr := xr.mv m4 (by simp)
    replace x := x.mv m4 (by simp) (by simp)
    dsimp only
    rw [zEntry]
    have okn := okNext20 hg hli okb
    refine new_C q4 5 fun pe q5 m5 be => ?_
    replace m := m.step m5 (by simp)
    replace xr := xr.mv m5 (by simp)
    replace x := x.mv m5 (by simp) (by simp)
    refine storeAgg_C be (by rw [szEntry]; exact lenEntry okn) (by rw [szEntry, List.size_toArray, lenEntry okEntry0]; omega) (fun v hv => Sh.enc_one (s := ShEntry) rfl v hv) fun q6 m6 b6 => ?_
    replace m := m.step m6 (by simp)
    replace xr := xr.mv m6 (by simp)
    replace x := x.mv m6 (by simp) (by simp)
    rw [overA_all (by rw [List.size_toArray, lenEntry okn, lenEntry okEntry0])] at b6
    refine joinW_intro (fun _ h' => ∃ q : GH, h' = q.h ∧ Mv [1, 2, 3, 4, 5, 6] g.base q ∧ MkR q 2 pm ∧ Chn20 q 3 4 p pm game (linkedT game (bs.take i)) ∧ BlkC q 5 pe ⟨ShEntry.enc (link1 game (linkedT game (bs.take i)) bs[i])⟩ T.api_Entry) ?_ ?_
    · intro J hJ
      by_cases h2 : (next20 game (linkedT game (bs.take i)) bs[i]).2 = 0
      · rw [if_neg (by simp [h2])]
        refine hJ _ _ ⟨q6, rfl, m, xr, x, ?_⟩
        unfold link1
        rw [if_pos h2]
        exact b6
      · rw [if_pos (by simpa using h2)]
        refine ⟨⟨ShBody.enc resign⟩, fun w => by kernel_rfl, ?_⟩
        refine ref20Next_spec x xr hli resign okResign fun q7 m7 => ⟨(_, _), rfl, ?_⟩
        have okr := okNext20 hg hli okResign
        refine storeAgg_C (b6.mv m7 (by simp)) (by rw [szEntry]; exact lenEntry okr) (by rw [szEntry]; simp [lenEntry okn]) (fun v hv => Sh.enc_one (s := ShEntry) rfl v hv) fun q8 m8 b8 => ?_
        refine hJ _ _ ⟨q8, rfl, (m.step m7 (by simp)).step m8 (by simp), (xr.mv m7 (by simp)).mv m8 (by simp), (x.mv m7 (by simp) (by simp)).mv m8 (by simp) (by simp), ?_⟩
        rw [overA_all (by simp [lenEntry okn, lenEntry okr])] at b8
        unfold link1
        rw [if_neg h2]
        exact b8
    · clear m xr x b6 m4 m5 m6 be
      rintro _ _ ⟨q, rfl, m, xr, x, be⟩
      obtain ⟨se, bc, oe, _⟩ := x
      have okl := okLink1 hg hli okb
      simp only [derefK_some, fldK_some]
      rw [loadK_C bc]
      refine ⟨se, by rw [Nat.zero_add]; exact chn20_33 hg se, ?_⟩
      refine loadEntryAt (blkCells be) okl ?_
      refine mkEntry_C q 6 okl fun s7 q7 m7 o7 _ => ?_
      have hl7 := o7.len
      have hoe := oe.len
      rw [linkedT_length] at hoe
      refine appendEntries_C (oe.mv m7 (by simp)) (o7.slc rfl (by simp)) (by simp at hl7 hoe; omega) fun s8 q8 m8 o8 => ?_
      refine store_C ((bc.mv m7 (by simp)).mv m8 (by simp)) (by rw [chn20_size hg]; omega) rfl fun q9 m9 b9 => ?_
      rw [wrapSucc (by omega)]
      refine hX _ _ ⟨i + 1, q9, by omega, rfl, rfl, ((m.step m7 (by simp)).step m8 (by simp)).step m9 (by simp), ((xr.mv m7 (by simp)).mv m8 (by simp)).mv m9 (by simp), s8, ?_, ?_, hg⟩ (by simp; omega)
      · rw [Nat.zero_add] at b9
        have := chn20Set (pm := pm) hg se s8
        unfold slV at this
        rw [this] at b9
        exact b9
      · rw [List.take_succ_eq_append_getElem hlt, linkedT_snoc]
        exact o8.mv m9 (by simp)
  · rw [if_neg (by simp [hn]; omega)]
    have hi' : i = bs.length := by omega
    subst hi'
    rw [List.take_length] at x
    obtain ⟨se, bc, oe, _⟩ := x
    simp only [derefK_some, fldK_some]
    rw [loadK_C bc]
    refine ⟨se, by rw [Nat.zero_add]; exact chn20_33 hg se, ?_⟩
    exact H se (g.via q fun _ => c) (m.via (by simp) _) (oe.via m (by simp) _)

/-! ### What the document tells -/

def rolledT (old now : List EntryT) : Bool := (compareT now old).1 == 2
theorem rolled_spec {g : GH} {c d : Nat} {a b : Sl} {xs ys : List EntryT} (ha : SlC g c ShEntry a xs) (hb : SlC g d ShEntry b ys) {R : Value → Heap → Prop}
    (H : ∀ g' : GH, Mv [] g g' → R (.bool (rolledT xs ys)) g'.h) : HC Tryz.prog F.fork_Rolled #[.slice a.a a.n a.c, .slice b.a b.n b.c] R g.h := by
  refine fork_Rolled.calls (old0 := a) (now1 := b) ?_
  unfold fork_Rolled.body
  exact compare_spec hb ha fun g' m => ⟨(_, _), rfl, H g' m⟩
def signT (n : Int) : Int := if Int.tmod n 2 = 0 then 0 else 1
theorem signer_spec {n : Int} {h : Heap} {R : Value → Heap → Prop} (H : R (.int .i64 (signT n)) h) : HC Tryz.prog F.fork_Signer #[.int .i64 n] R h := by
  refine fork_Signer.calls ?_
  unfold fork_Signer.body
  refine ⟨by decide, ?_⟩
  unfold signT at H
  by_cases h2 : Int.tmod n 2 = 0
  · rw [if_neg (by simp [h2])]; rwa [if_pos h2] at H
  · rw [if_pos (by simp [h2])]; rwa [if_neg h2] at H
/-! ### The chapter's examples -/

theorem compareT_take {xs : List EntryT} {n : Nat} (h : n < xs.length) : compareT (xs.take n) xs = (2, n) := by
  have hl : (xs.take n).length = n := by simp; omega
  have hp : partAt (xs.take n) xs = n := partAt_eq (i := n) (by rw [List.take_take, Nat.min_self]) (by omega) fun h' => absurd h' (by omega)
  unfold compareT
  rw [hp, if_neg (by omega), if_pos (by omega)]
theorem compareT_self (xs : List EntryT) : compareT xs xs = (1, xs.length) := by
  have hp : partAt xs xs = xs.length := partAt_eq rfl (by omega) fun h' => absurd h' (by omega)
  unfold compareT
  rw [hp, if_neg (by omega), if_neg (by omega), if_neg (by omega)]
theorem link1_what {game : List Int} {es : List EntryT} {b : BodyT} (h : bodyOk b = true) : (link1 game es b).what = b := by
  have : next20 game es b = ((game, (es.length : Int), head20 game es, b, ()), 0) := by unfold next20; rw [if_pos h]
  unfold link1
  rw [this, if_pos rfl]
def exL : List EntryT := linkedT zero32 [resign, resign, resign, resign, resign]
def exO : List EntryT := linkedT zero32 [resign, accept]
theorem exL_length : exL.length = 5 := linkedT_length _ _
theorem exO_length : exO.length = 2 := linkedT_length _ _
theorem exLO : compareT exL exO = (4, 1) := by
  have hL : exL = link1 zero32 [] resign :: link1 zero32 [link1 zero32 [] resign] resign :: exL.drop 2 := rfl
  have hO : exO = link1 zero32 [] resign :: link1 zero32 [link1 zero32 [] resign] accept :: [] := rfl
  have hne : link1 zero32 [link1 zero32 [] resign] resign ≠ link1 zero32 [link1 zero32 [] resign] accept := fun e => by
    have h1 := link1_what (game := zero32) (es := [link1 zero32 [] resign]) goodResign
    have h2 := link1_what (game := zero32) (es := [link1 zero32 [] resign]) goodAccept
    rw [e, h2] at h1
    cases h1
  have hp : partAt exL exO = 1 := by
    rw [hL, hO]
    simp only [partAt]
    rw [if_pos trivial, if_neg hne]
  unfold compareT
  rw [hp, exL_length, exO_length]
  rfl

theorem tag0_build (w : World) : (Instr.build T.api_Tag #[]).run Tryz.prog w = .ok (.agg ⟨ShTag.enc zero32⟩) w := by kernel_rfl
theorem body_build4 (w : World) : (Instr.build T.api_Body #[(0, .int .i64 4)]).run Tryz.prog w = .ok (.agg ⟨ShBody.enc resign⟩) w := by kernel_rfl
theorem body_build3 (w : World) : (Instr.build T.api_Body #[(0, .int .i64 3)]).run Tryz.prog w = .ok (.agg ⟨ShBody.enc accept⟩) w := by kernel_rfl

theorem mkBodies_C (g : GH) (c n : Nat) (bs : List BodyT) (ok : ∀ b ∈ bs, ShBody.ok b) (hn : bs.length = n) (h0 : 0 < n) (hle : n ≤ 1000) {parts : Array (Nat × Value)} (hp : parts.toList = ((bs.map fun b => Value.agg ⟨ShBody.enc b⟩).zipIdx).map fun x => (x.2, x.1)) {K : Sl → Heap → Prop}
    (H : ∀ (s : Sl) (g' : GH), Mv [] g g' → OwnF T.api_Body ShBody g' c s bs → K s g'.h) : opK Tryz.prog .slice (Instr.buildSlice T.sl_api_Body n parts) K g.h := by
  refine buildRows_C (e := T.api_Body) (sz := (ShBody).size) (z := .agg (zerosOf Tryz.prog T.api_Body)) (by kernel_rfl) (by kernel_rfl) (by decide) (bs.map fun b => Value.agg ⟨ShBody.enc b⟩) hp (by
    intro v hv
    obtain ⟨b, hb, rfl⟩ := List.mem_map.1 hv
    have := Sh.enc_length (s := ShBody) rfl (ok b hb)
    simpa [Value.cells] using this) (by simpa using hn) h0 (by show n * 70 ≤ 16777216; omega) g c fun s g' m o hn' hc => ?_
  refine H s g' m ⟨?_, ok, by rw [hn', hn]⟩
  have : ((bs.map fun b => Value.agg ⟨ShBody.enc b⟩).flatMap fun v => v.cells.toList) = bs.flatMap ShBody.enc := by
    rw [List.flatMap_map]
    rfl
  rw [← this]
  exact o

theorem compare_is {g : GH} {c d : Nat} {a b : Sl} {xs ys : List EntryT} {k : Int} {n : Nat} (he : compareT xs ys = (k, n)) (ha : SlC g c ShEntry a xs) (hb : SlC g d ShEntry b ys) {R : Value → Heap → Prop}
    (H : ∀ g' : GH, Mv [] g g' → R (.tuple #[.int .i64 k, .int .i64 n]) g'.h) : HC Tryz.prog F.fork_Compare #[.slice a.a a.n a.c, .slice b.a b.n b.c] R g.h :=
  compare_spec ha hb fun g' m => by rw [he]; exact H g' m
theorem rolled_is {g : GH} {c d : Nat} {a b : Sl} {xs ys : List EntryT} {r : Bool} (he : rolledT xs ys = r) (ha : SlC g c ShEntry a xs) (hb : SlC g d ShEntry b ys) {R : Value → Heap → Prop}
    (H : ∀ g' : GH, Mv [] g g' → R (.bool r) g'.h) : HC Tryz.prog F.fork_Rolled #[.slice a.a a.n a.c, .slice b.a b.n b.c] R g.h :=
  rolled_spec ha hb fun g' m => by rw [he]; exact H g' m

set_option maxHeartbeats 1000000 in
theorem awake21_spec (g : GH) {R : Value → Heap → Prop} (H : ∀ g' : GH, Mv [] g g' → R (.bool true) g'.h) : HC Tryz.prog F.law21_awake #[] R g.h := by
  refine law21_awake.calls ?_
  unfold law21_awake.body
  have m := Mv.refl [1, 2, 3, 4] g.base
  refine ⟨_, body_build4, ?_⟩
  rw [zBody]
  refine new_C g.base 1 fun pr q1 m1 b1 => ?_
  replace m := m.step m1 (by simp)
  refine storeAgg_C b1 (by rw [szBody]; exact lenBody okResign) (by rw [szBody, List.size_toArray, lenBody okBody0]; omega) (fun v hv => Sh.enc_one (s := ShBody) rfl v hv) fun q2 m2 b2 => ?_
  replace m := m.step m2 (by simp)
  rw [overA_all (by rw [List.size_toArray, lenBody okResign, lenBody okBody0])] at b2
  have b2' : BlkC q2 1 pr ⟨ShBody.enc resign⟩ T.api_Body := b2
  clear b2
  refine ⟨_, tag0_build, ?_⟩
  iterate 5 refine loadBodyAt (blkCells b2') okResign ?_
  refine mkBodies_C q2 2 5 [resign, resign, resign, resign, resign] (fun b hb => by simp at hb; subst hb; exact okResign) rfl (by decide) (by decide) (by kernel_rfl) fun s3 q3 m3 o3 => ?_
  replace m := m.step m3 (by simp)
  refine linked_spec q3 3 zero32 ok0 s3 _ (o3.slc rfl (by simp)) (by simp) fun s4 q4 m4 o4 => ⟨_, rfl, ?_⟩
  replace m := m.step m4 (by simp)
  replace b2' := (b2'.mv m3 (by simp)).mv m4 (by simp)
  change OwnF T.api_Entry ShEntry q4 3 s4 exL at o4
  refine ⟨_, tag0_build, ?_⟩
  refine loadBodyAt (blkCells b2') okResign ?_
  refine ⟨_, body_build3, ?_⟩
  refine mkBodies_C q4 2 2 [resign, accept] (fun b hb => by
    simp at hb
    rcases hb with rfl | rfl
    · exact okResign
    · exact okAccept) rfl (by decide) (by decide) (by kernel_rfl) fun s5 q5 m5 o5 => ?_
  replace m := m.step m5 (by simp)
  refine linked_spec q5 4 zero32 ok0 s5 _ (o5.slc rfl (by simp)) (by simp) fun s6 q6 m6 o6 => ⟨_, rfl, ?_⟩
  replace m := m.step m6 (by simp)
  change OwnF T.api_Entry ShEntry q6 4 s6 exO at o6
  replace o4 := (o4.mv m5 (by simp)).mv m6 (by simp)
  have h4 := o4.len
  have hc4 := o4.cap
  rw [exL_length] at h4
  refine slice_to (n := 3) o4.plain rfl (by omega) ?_
  have t3 := o4.take rfl (n := 3) (k := s4.c) (by rw [exL_length]; omega) (by omega) (Nat.le_refl _)
  have eL := o4.slc rfl (by rw [exL_length]; omega)
  have eO := o6.slc rfl (by rw [exO_length]; omega)
  refine compare_is (compareT_take (by rw [exL_length]; omega)) (t3.slc rfl (by simp; rw [exL_length]; omega)) eL fun q7 m7 => ⟨(2, ((3 : Nat) : Int)), rfl, ?_⟩
  replace m := m.step m7 (by simp)
  refine compare_is exLO (eL.mv m7 (by simp)) (eO.mv m7 (by simp)) fun q8 m8 => ⟨(4, ((1 : Nat) : Int)), rfl, ?_⟩
  replace m := m.step m8 (by simp)
  dsimp only
  rw [if_pos (by simp), if_pos (by simp), if_pos (by simp), if_pos (by simp)]
  refine signer_spec ⟨signT 1, rfl, ?_⟩
  dsimp only
  rw [if_pos (by decide)]
  refine slice_to (n := 2) o4.plain rfl (by omega) ?_
  have o8 := (o4.mv m7 (by simp)).mv m8 (by simp)
  have t2 := o8.take rfl (n := 2) (k := s4.c) (by rw [exL_length]; omega) (by omega) (Nat.le_refl _)
  have eL8 := (eL.mv m7 (by simp)).mv m8 (by simp)
  refine rolled_is (r := true) (by unfold rolledT; rw [compareT_take (by rw [exL_length]; omega)]; rfl) eL8 (t2.slc rfl (by simp; rw [exL_length]; omega)) fun q9 m9 => ⟨true, rfl, ?_⟩
  dsimp only
  replace m := m.step m9 (by simp)
  rw [if_pos rfl]
  have eL9 := eL8.mv m9 (by simp)
  refine rolled_is (r := false) (by unfold rolledT; rw [compareT_self]; rfl) eL9 eL9 fun q10 m10 => ⟨false, rfl, ?_⟩
  replace m := m.step m10 (by simp)
  exact H (g.via q10 fun _ => 0) (m.via (by simp) _)

end Go.Proofs.YtgggpnjjkcfckaaGreat
