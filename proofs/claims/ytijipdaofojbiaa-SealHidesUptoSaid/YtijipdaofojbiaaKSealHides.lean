/-
  The statement SealHides.
-/
import Derived.Test.YtijipdaofojbiaaKHides24
set_option linter.unusedSimpArgs false
set_option linter.unusedVariables false
namespace Go.Proofs.Ytijipdaofojbiaa
open Go Go.Ev

theorem okNumS (n : Int) : ShTag.ok (numT n) := okTag (numT_length n) (numT_byte n)
theorem tagEnc (t : List Int) : tagA t = ⟨ShTag.enc t⟩ := by rw [encTag]
theorem mkTwo_C (g : GH) (c : Nat) {a b : List Int} (ha : ShTag.ok a) (hb : ShTag.ok b) {K : Sl → Heap → Prop} (H : ∀ (s : Sl) (g' : GH), Mv [] g g' → OwnF T.api_Tag ShTag g' c s [a, b] → K s g'.h) :
    opK Try.prog .slice (Instr.buildSlice T.sl_api_Tag 2 #[(0, .agg (tagA a)), (1, .agg (tagA b))]) K g.h := by
  rw [tagEnc, tagEnc]
  refine buildRows_C (e := T.api_Tag) (sz := (ShTag).size) (z := .agg (zerosOf Try.prog T.api_Tag)) (by kernel_rfl) (by kernel_rfl) (by decide) ([a, b].map fun t => Value.agg ⟨ShTag.enc t⟩) rfl (by
    intro v hv
    simp only [List.map_cons, List.map_nil, List.mem_cons, List.mem_nil_iff, or_false] at hv
    rcases hv with rfl | rfl
    · simpa [Value.cells] using Sh.enc_length (s := ShTag) rfl ha
    · simpa [Value.cells] using Sh.enc_length (s := ShTag) rfl hb) rfl (by show 0 < 2; decide) (by show 2 * 32 ≤ 16777216; decide) g c fun s g' m o hn' hc => ?_
  refine H s g' m ⟨?_, by
    intro t ht
    simp only [List.mem_cons, List.mem_nil_iff, or_false] at ht
    rcases ht with rfl | rfl
    · exact ha
    · exact hb, hn'⟩
  have : (([a, b].map fun t => Value.agg ⟨ShTag.enc t⟩).flatMap fun v => v.cells.toList) = [a, b].flatMap ShTag.enc := by
    rw [List.flatMap_map]
    rfl
  rw [← this]
  exact o
theorem cellsRd {g : GH} {c b o n k : Nat} {t : List Int} (h : CellsC g c b o (ShTag.enc t)) (hn : n = t.length) : RdC 1 g c ⟨some ⟨b, o, none⟩, n, k⟩ (t.map byV) := by
  rw [encTag] at h
  obtain ⟨⟨y, e, fz, hb, hx⟩, hc⟩ := h
  exact ⟨⟨by simp [hn], .inr ⟨b, o, _, _, _, rfl, hb, fun i hi => hx i hi⟩⟩, .inr ⟨b, rfl, lt_of_get hb, hc⟩⟩

/-- A loop that asks what does not bear the mark, alone and under the game's key. -/
theorem asks24_loop {q0 : GH} {p pg : Nat} (mx : MaxC q0 0) (game : List Int) (okg : ShTag.ok game) (bg : BlkC q0 4 pg (tagA game) T.api_Tag) (v : Sl) (xss : List (List Int)) (hr : RowsC q0 0 v xss) (hby : ∀ xs ∈ xss, ∀ x ∈ xs, isByte x) (hxl : ∀ x ∈ xss, x.length ≤ 2000000) (hl : xss.length ≤ 1000)
    (s0 : Sl) (out : List (List Int)) (o : OwnF T.api_Tag ShTag q0 3 s0 out) (hol : out.length ≤ 1000000) (A : List ShThing.T) (x : MakC q0 1 2 p false [] A) {K : Sl × Int → Heap → Prop}
    (H : ∀ (s : Sl) (n : Int) (q : GH), Mv [1, 2, 3, 8] q0 q → OwnF T.api_Tag ShTag q 3 s (out ++ (asks24 game A xss).1) → MakC q 1 2 p false [] (asks24 game A xss).2 → K (s, n) q.h) :
    loopW (fun X (s_6 : Sl × Int) (h : Heap) =>
      if (decide (s_6.2 < ((v.n : Int)))) = true then
      idxK v s_6.2 (sizeOfT Try.prog T.sl_uint8) (fun (a_8 : Addr) =>
      loadK .slice h ((some a_8)) (fun (v_9 : Sl) =>
      callK Try.prog .bool F.tags_Mark #[(.slice v_9.a v_9.n v_9.c)] (fun (v_10 : Bool) (h : Heap) =>
      if (!v_10) = true then
      idxK v s_6.2 (sizeOfT Try.prog T.sl_uint8) (fun (a_11 : Addr) =>
      sliceArrK (some ⟨pg, 0, none⟩) 32 none none none (sizeOfT Try.prog T.uint8) (fun (v_12 : Sl) =>
      idxK v s_6.2 (sizeOfT Try.prog T.sl_uint8) (fun (a_13 : Addr) =>
      loadK .slice h ((some a_11)) (fun (v_14 : Sl) =>
      loadK .slice h ((some a_13)) (fun (v_15 : Sl) =>
      ((newSlK h 1 #[(.slice v_14.a v_14.n v_14.c)] T.sl_uint8 (fun (v_16 : Sl) (h : Heap) =>
      ((callK Try.prog .agg F.tags_Maker_Sum #[(.pointer (some ⟨p, 0, none⟩)), (.slice v_16.a v_16.n v_16.c)] (fun (v_17 : Array Value) (h : Heap) =>
      stillK .slice h ((some a_13)) v_15 ∧
      newSlK h 1 #[(.slice v_15.a v_15.n v_15.c)] T.sl_uint8 (fun (v_18 : Sl) (h : Heap) =>
      callK Try.prog .agg F.tags_Maker_Mac #[(.pointer (some ⟨p, 0, none⟩)), (.slice v_12.a v_12.n v_12.c), (.slice v_18.a v_18.n v_18.c)] (fun (v_19 : Array Value) (h : Heap) =>
      opK Try.prog .slice (Instr.buildSlice T.sl_api_Tag 2 #[(0, (.agg v_17)), (1, (.agg v_19))]) (fun (v_20 : Sl) (h : Heap) =>
      opK Try.prog .slice (Builtin.append_ #[T.sl_api_Tag, T.sl_api_Tag] T.sl_api_Tag #[(.slice s_6.1.a s_6.1.n s_6.1.c), (.slice v_20.a v_20.n v_20.c)]) (fun (v_21 : Sl) (h : Heap) =>
      X (v_21, IntKind.i64.wrap (s_6.2 + 1)) h) h) h) h)) h) ∧
      (newSlK h 1 #[(.slice v_15.a v_15.n v_15.c)] T.sl_uint8 (fun (v_22 : Sl) (h : Heap) =>
      callK Try.prog .agg F.tags_Maker_Sum #[(.pointer (some ⟨p, 0, none⟩)), (.slice v_16.a v_16.n v_16.c)] (fun (v_23 : Array Value) (h : Heap) =>
      callK Try.prog .agg F.tags_Maker_Mac #[(.pointer (some ⟨p, 0, none⟩)), (.slice v_12.a v_12.n v_12.c), (.slice v_22.a v_22.n v_22.c)] (fun (v_24 : Array Value) (h : Heap) =>
      opK Try.prog .slice (Instr.buildSlice T.sl_api_Tag 2 #[(0, (.agg v_23)), (1, (.agg v_24))]) (fun (v_25 : Sl) (h : Heap) =>
      opK Try.prog .slice (Builtin.append_ #[T.sl_api_Tag, T.sl_api_Tag] T.sl_api_Tag #[(.slice s_6.1.a s_6.1.n s_6.1.c), (.slice v_25.a v_25.n v_25.c)]) (fun (v_26 : Sl) (h : Heap) =>
      X (v_26, IntKind.i64.wrap (s_6.2 + 1)) h) h) h) h) h))))) ∧
      (newSlK h 1 #[(.slice v_15.a v_15.n v_15.c)] T.sl_uint8 (fun (v_27 : Sl) (h : Heap) =>
      newSlK h 1 #[(.slice v_14.a v_14.n v_14.c)] T.sl_uint8 (fun (v_28 : Sl) (h : Heap) =>
      callK Try.prog .agg F.tags_Maker_Sum #[(.pointer (some ⟨p, 0, none⟩)), (.slice v_28.a v_28.n v_28.c)] (fun (v_29 : Array Value) (h : Heap) =>
      callK Try.prog .agg F.tags_Maker_Mac #[(.pointer (some ⟨p, 0, none⟩)), (.slice v_12.a v_12.n v_12.c), (.slice v_27.a v_27.n v_27.c)] (fun (v_30 : Array Value) (h : Heap) =>
      opK Try.prog .slice (Instr.buildSlice T.sl_api_Tag 2 #[(0, (.agg v_29)), (1, (.agg v_30))]) (fun (v_31 : Sl) (h : Heap) =>
      opK Try.prog .slice (Builtin.append_ #[T.sl_api_Tag, T.sl_api_Tag] T.sl_api_Tag #[(.slice s_6.1.a s_6.1.n s_6.1.c), (.slice v_31.a v_31.n v_31.c)]) (fun (v_32 : Sl) (h : Heap) =>
      X (v_32, IntKind.i64.wrap (s_6.2 + 1)) h) h) h) h) h)))))))))
      else
      X (s_6.1, IntKind.i64.wrap (s_6.2 + 1)) h) h))
      else K s_6 h) (s0, 0) q0.h := by
  have hn := hr.len
  have hgb := okTagB okg
  refine loopW_rule (fun st h' => ∃ (i : Nat) (s : Sl) (q : GH), i ≤ xss.length ∧ st = (s, (i : Int)) ∧ h' = q.h ∧ Mv [1, 2, 3, 8] q0 q ∧ OwnF T.api_Tag ShTag q 3 s (out ++ (asks24 game A (xss.take i)).1) ∧ MakC q 1 2 p false [] (asks24 game A (xss.take i)).2) (fun st => xss.length - st.2.toNat)
    ⟨0, s0, q0, by omega, rfl, rfl, Mv.refl _ _, by simpa [asks24] using o, by simpa [asks24] using x⟩ ?_
  rintro X _ _ ⟨i, s, q, hi, rfl, rfl, m, o, x⟩ hX
  have hlen := asks24_len game (xss.take i) A
  have hsn := o.len
  rw [List.length_append] at hsn
  rw [List.length_take] at hlen
  try dsimp only
  by_cases hlt : i < xss.length
  · rw [if_pos (by simp; omega)]
    have hmem := List.getElem_mem hlt
    have hsz := hxl _ hmem
    have hsnoc := asks24_snoc game xss[i] (xss.take i) A
    rw [← List.take_succ_eq_append_getElem hlt] at hsnoc
    have hr' := hr
    obtain ⟨sls, r0, hsl, hel⟩ := hr
    have hil : i < sls.length := by omega
    obtain ⟨rs, cs⟩ := hel i _ _ (List.getElem?_eq_getElem hil) (List.getElem?_eq_getElem hlt)
    have hget : (sls.map slV)[i]? = some (Kd.inj .slice sls[i]) := by simp [hil]; rfl
    generalize sls[i] = sl at rs cs hget
    have hne : sls.map slV ≠ [] := by
      intro e
      rw [e] at hget
      cases hget
    have hlm : i < (sls.map slV).length := by simpa using hil
    refine idxLoad_C (r0.mv m (by simp)) (by kernel_rfl) (by omega) sl (by simpa using hget) ?_
    refine tagsMark_spec (mx.mv m (by simp)) (rs.mv m (by simp)) cs (hby _ hmem) (by omega) fun q2 m2 => ⟨_, rfl, ?_⟩
    try dsimp only
    replace m := m.step m2 (by simp)
    replace o := o.mv m2 (by simp)
    replace x := x.mv m2 (by simp) (by simp)
    by_cases hm : markT xss[i] = true
    · rw [if_neg (by simp [hm]), wrapSucc (by omega)]
      rw [if_pos hm] at hsnoc
      exact hX _ _ ⟨i + 1, s, q2, by omega, rfl, rfl, m, by rw [hsnoc]; exact o, by rw [hsnoc]; exact x⟩ (by simp; omega)
    · rw [if_pos (by simp [hm])]
      rw [if_neg hm] at hsnoc
      obtain ⟨b, ob, cc, hidx⟩ := (r0.mv m (by simp)).at_ hne (by kernel_rfl : sizeOfT Try.prog T.sl_uint8 = 1)
      refine hidx _ _ (by omega) (by simpa using hlm) ?_
      refine sliceArr_C 0 32 rfl rfl (by decide) ?_
      refine hidx _ _ (by omega) (by simpa using hlm) ?_
      refine loadK_cells cc sl (j := i) (by simp) hget ?_
      refine loadK_cells cc sl (j := i) (by simp) hget ?_
      have rg : RdC 1 q2 4 ⟨some ⟨pg, 0 + 0 * sizeOfT Try.prog T.uint8, none⟩, 32 - 0, 32 - 0⟩ (game.map byV) := cellsRd (cellsTo (blkCells (by rw [← tagEnc]; exact bg.mv m (by simp))) (by simp)) hgb.1.symm
      generalize (⟨some ⟨pg, 0 + 0 * sizeOfT Try.prog T.uint8, none⟩, 32 - 0, 32 - 0⟩ : Sl) = gs at rg
      have rs2 := rs.mv m (by simp)
      have stl : ∀ q : GH, Mv [1, 2, 3, 8] q2 q → stillK .slice q.h (some ⟨b, ob + (i : Int).toNat, none⟩) sl := fun q e => stillK_cells (cc.mv e (by simp)) (j := i) (by simp) hget
      clear hidx
      have one : ∀ (q : GH) (K : Sl → Heap → Prop), Mv [1, 2, 3, 8] q2 q → (∀ (s' : Sl) (q' : GH), Mv [] q q' → RowsC q' 0 s' [xss[i]] → K s' q'.h) → newSlK q.h 1 #[.slice sl.a sl.n sl.c] T.sl_uint8 K := by
        intro q K e h
        exact newSl_C q 0 rfl fun s4 q4 m4 o4 hn4 hc4 => h s4 q4 m4 (RowsC.one o4.rd ((rs2.mv e (by simp)).mv m4 (by simp)) cs)
      have sm : ∀ (q : GH) (sa : Sl) (K : Array Value → Heap → Prop), MakC q 1 2 p false [] (asks24 game A (xss.take i)).2 → RowsC q 0 sa [xss[i]] → (∀ q' : GH, Mv [2] q q' → MakC q' 1 2 p false [] (askT (asks24 game A (xss.take i)).2 (thS xss[i])).2 → K (tagA (numT ((askT (asks24 game A (xss.take i)).2 (thS xss[i])).1 : Int))) q'.h) →
          callK Try.prog .agg F.tags_Maker_Sum #[(.pointer (some ⟨p, 0, none⟩)), (.slice sa.a sa.n sa.c)] K q.h := by
        intro q sa K x rr h
        refine sumTab_spec (by decide) x sa _ rr (by simp [total]; omega) (by simp) fun q5 m5 x5 => ⟨_, rfl, ?_⟩
        rw [show [xss[i]].flatten = xss[i] from by simp] at x5 ⊢
        exact h q5 m5 x5
      have mc : ∀ (q : GH) (sb : Sl), Mv [1, 2, 3, 8] q0 q → Mv [1, 2, 3, 8] q2 q → OwnF T.api_Tag ShTag q 3 s (out ++ (asks24 game A (xss.take i)).1) → MakC q 1 2 p false [] (askT (asks24 game A (xss.take i)).2 (thS xss[i])).2 → RowsC q 0 sb [xss[i]] →
          callK Try.prog .agg F.tags_Maker_Mac #[(.pointer (some ⟨p, 0, none⟩)), (.slice gs.a gs.n gs.c), (.slice sb.a sb.n sb.c)] (fun (v_19 : Array Value) (h : Heap) =>
          opK Try.prog .slice (Instr.buildSlice T.sl_api_Tag 2 #[(0, (.agg (tagA (numT ((askT (asks24 game A (xss.take i)).2 (thS xss[i])).1 : Int))))), (1, (.agg v_19))]) (fun (v_20 : Sl) (h : Heap) =>
          opK Try.prog .slice (Builtin.append_ #[T.sl_api_Tag, T.sl_api_Tag] T.sl_api_Tag #[(.slice s.a s.n s.c), (.slice v_20.a v_20.n v_20.c)]) (fun (v_21 : Sl) (h : Heap) =>
          X (v_21, IntKind.i64.wrap ((i : Int) + 1)) h) h) h) q.h := by
        intro q sb m mq o x rr
        refine macTab_spec (by decide) x gs sb game _ (rg.mv mq (by simp)) (by rw [hgb.1]; omega) rr (by simp [total]; omega) (by simp) fun q5 m5 x5 => ⟨_, rfl, ?_⟩
        rw [show [xss[i]].flatten = xss[i] from by simp] at x5 ⊢
        replace m := m.step m5 (by simp)
        replace o := o.mv m5 (by simp)
        refine mkTwo_C q5 8 (okNumS _) (okNumS _) fun s6 q6 m6 o6 => ?_
        replace m := m.step m6 (by simp)
        replace o := o.mv m6 (by simp)
        refine appendTags_C o (o6.slc rfl (by simp)) (by have := o6.len; simp at this; omega) fun s7 q7 m7 o7 => ?_
        rw [wrapSucc (by omega)]
        refine hX _ _ ⟨i + 1, s7, q7, by omega, rfl, rfl, m.step m7 (by simp), ?_, ?_⟩ (by simp; omega)
        · rw [hsnoc]; dsimp only; rw [← List.append_assoc]; exact o7
        · rw [hsnoc]; exact (x5.mv m6 (by simp) (by simp)).mv m7 (by simp) (by simp)
      have m22 : Mv [1, 2, 3, 8] q2 q2 := Mv.refl _ _
      refine ⟨?_, ?_⟩
      · refine one q2 _ m22 fun s3 q3 m3 r3 => ?_
        refine ⟨?_, ?_⟩
        · refine sm q3 s3 _ (x.mv m3 (by simp) (by simp)) r3 fun q4 m4 x4 => ?_
          have m24 := (m22.step m3 (by simp)).step m4 (by simp)
          refine ⟨stl q4 m24, ?_⟩
          refine one q4 _ m24 fun s5 q5 m5 r5 => ?_
          exact mc q5 s5 (((m.step m3 (by simp)).step m4 (by simp)).step m5 (by simp)) (m24.step m5 (by simp)) (((o.mv m3 (by simp)).mv m4 (by simp)).mv m5 (by simp)) (x4.mv m5 (by simp) (by simp)) r5
        · have m23 := m22.step m3 (by simp)
          refine one q3 _ m23 fun s5 q5 m5 r5 => ?_
          refine sm q5 s3 _ ((x.mv m3 (by simp) (by simp)).mv m5 (by simp) (by simp)) (r3.mv m5 (by simp)) fun q4 m4 x4 => ?_
          exact mc q4 s5 (((m.step m3 (by simp)).step m5 (by simp)).step m4 (by simp)) ((m23.step m5 (by simp)).step m4 (by simp)) (((o.mv m3 (by simp)).mv m5 (by simp)).mv m4 (by simp)) x4 (r5.mv m4 (by simp))
      · refine one q2 _ m22 fun s3 q3 m3 r3 => ?_
        have m23 := m22.step m3 (by simp)
        refine one q3 _ m23 fun s5 q5 m5 r5 => ?_
        refine sm q5 s5 _ ((x.mv m3 (by simp) (by simp)).mv m5 (by simp) (by simp)) r5 fun q4 m4 x4 => ?_
        exact mc q4 s3 (((m.step m3 (by simp)).step m5 (by simp)).step m4 (by simp)) ((m23.step m5 (by simp)).step m4 (by simp)) (((o.mv m3 (by simp)).mv m5 (by simp)).mv m4 (by simp)) x4 ((r3.mv m5 (by simp)).mv m4 (by simp))
  · rw [if_neg (by simp; omega)]
    have hi' : i = xss.length := by omega
    subst hi'
    rw [List.take_length] at o x
    exact H s _ q m o x

abbrev KV24 : List Nat := [1, 2, 3, 4, 5, 6, 7, 8]
def outAt24 (game : List Int) (number : Int) (x : MoveT) (asked : List (List Int)) (k : Int) : Nat → List (List Int)
  | 0 => []
  | 1 => (asks24 game [] asked).1 ++ [(made24 game number x asked k).1, numT ((askT (made24 game number x asked k).2.2 (thM game (made24 game number x asked k).1)).1 : Int)]
  | _ => run24 game number x asked k
def askAt24 (game : List Int) (number : Int) (x : MoveT) (asked : List (List Int)) (k : Int) : Nat → List ShThing.T
  | 0 => []
  | _ => (askT (made24 game number x asked k).2.2 (thM game (made24 game number x asked k).1)).2
theorem outAt24_len (game : List Int) (number : Int) (x : MoveT) (asked : List (List Int)) (k : Int) (i : Nat) : (outAt24 game number x asked k i).length ≤ 4 * asked.length + 2 := by
  have h1 := asks24_len game asked []
  have h2 := asks24_len game asked (askT (made24 game number x asked k).2.2 (thM game (made24 game number x asked k).1)).2
  rcases i with _ | _ | i
  · simp [outAt24]
  · simp [outAt24]; omega
  · simp only [outAt24, run24, List.length_append, List.length_cons, List.length_nil]; omega
/-- A nonce, a seal. -/
def As24h (A : List ShThing.T) (game : List Int) (number : Int) (x : MoveT) (k : Int) (n : Nat) : List ShThing.T :=
  if n = 0 then A else if n = 1 then (askT A (thD k)).2 else (makeT24 false (askT A (thD k)).2 game number x (numT ((askT A (thD k)).1 : Int))).2.2.2

set_option maxHeartbeats 4000000 in
theorem view24_spec (g : GH) {kx d : Nat} (mx : MaxC g kx) (game : List Int) (okg : ShTag.ok game) (number : Int) (x : MoveT) (okx : ShMove.ok x) (va : Sl) (asked : List (List Int)) (ra : RowsC g d va asked) (hby : ∀ xs ∈ asked, ∀ x ∈ xs, isByte x) (hxl : ∀ x ∈ asked, x.length ≤ 2000000) (hl : asked.length ≤ 1000)
    (k : Int) (hk : -9223372036854775808 ≤ k ∧ k ≤ 9223372036854775807) (c : Nat) {R : Value → Heap → Prop}
    (H : ∀ (s : Sl) (g' : GH), Mv [] g g' → ((made24 game number x asked k).2.1 = 0 → OwnF T.api_Tag ShTag g' c s (run24 game number x asked k)) → R (.tuple #[.slice s.a s.n s.c, .int .i64 (made24 game number x asked k).2.1]) g'.h) :
    HC Try.prog F.law24_view #[.agg (tagA game), .int .i64 number, .agg ⟨ShMove.enc x⟩, .slice va.a va.n va.c, .int .i64 k] R g.h := by
  refine law24_view.calls (asked3 := va) ?_
  unfold law24_view.body
  have hgb := okTagB okg
  have m := Mv.refl KV24 g.base
  have mx0 : ∀ q : GH, Mv KV24 g.base q → MaxC q 0 := fun q m => mx.base.mv m (by simp)
  have ra0 : ∀ q : GH, Mv KV24 g.base q → RowsC q 0 va asked := fun q m => ra.arg m (by simp)
  refine new_C g.base 4 fun pg q1 m1 bg => ?_
  replace m := m.step m1 (by simp)
  refine new_C q1 5 fun px q2 m2 bx => ?_
  replace m := m.step m2 (by simp)
  replace bg := bg.mv m2 (by simp)
  refine makNew_spec q2 1 2 false ⟨none, 0, 0⟩ [] (RdC.nil _ _ 0 _ _) (by simp) (by simp) fun p q3 m3 xm => ⟨_, rfl, ?_⟩
  replace m := m.step m3 (by simp)
  replace bg := bg.mv m3 (by simp)
  replace bx := bx.mv m3 (by simp)
  clear m1 m2 m3
  refine loopW_rule (fun st h' => ∃ (i : Nat) (s : Sl) (q : GH), i ≤ 2 ∧ st = (s, (i : Int)) ∧ h' = q.h ∧ Mv KV24 g.base q ∧ BlkC q 4 pg (tagA game) T.api_Tag ∧ BlkC q 5 px ⟨ShMove.enc x⟩ T.api_Move ∧ OwnF T.api_Tag ShTag q 3 s (outAt24 game number x asked k i) ∧ (i < 2 → MakC q 1 2 p false [] (askAt24 game number x asked k i)) ∧ (1 ≤ i → (made24 game number x asked k).2.1 = 0)) (fun st => 2 - st.2.toNat)
    ⟨0, ⟨none, 0, 0⟩, q3, by omega, rfl, rfl, m, bg, bx, OwnF.nil _ _ _ _, fun _ => xm, fun h => absurd h (by decide)⟩ ?_
  clear m bg bx xm
  rintro X _ _ ⟨i, s, q, hi, rfl, rfl, m, bg, bx, o, xm, he⟩ hX
  try dsimp only
  by_cases hlt : i < 2
  · rw [if_pos (by simp; omega)]
    have hol := outAt24_len game number x asked k i
    refine asks24_loop (mx0 q m) game okg bg va asked (ra0 q m) hby hxl hl s _ o (by omega) _ (xm hlt) fun s2 _ q2 m2 o2 x2 => ?_
    try dsimp only
    replace m := m.step m2 (by simp)
    replace bg := bg.mv m2 (by simp)
    replace bx := bx.mv m2 (by simp)
    clear o xm m2
    by_cases h0 : i = 0
    · subst h0
      clear he
      rw [if_pos (by simp)]
      have o2' : OwnF T.api_Tag ShTag q2 3 s2 (asks24 game [] asked).1 := by
        have : outAt24 game number x asked k 0 ++ (asks24 game (askAt24 game number x asked k 0) asked).1 = (asks24 game [] asked).1 := by simp [outAt24, askAt24]
        rw [← this]; exact o2
      have x2' : MakC q2 1 2 p false [] (asks24 game [] asked).2 := x2
      clear o2 x2
      have okm : ShBody.ok (makeT24 false (drawn24 game asked k).2 game number x (numT ((drawn24 game asked k).1 : Int))).1 ∧ ShBody.ok (makeT24 false (drawn24 game asked k).2 game number x (numT ((drawn24 game asked k).1 : Int))).2.1 := makeT24_ok okx (okNumS _)
      obtain ⟨mk, hmk⟩ : ∃ mk, mk = makeT24 false (drawn24 game asked k).2 game number x (numT ((drawn24 game asked k).1 : Int)) := ⟨_, rfl⟩
      rw [← hmk] at okm
      refine joinW_intro (fun st h' => ∃ (q : GH) (pb cb : Nat), st = (some ⟨pb, 0, none⟩, mk.2.2.1) ∧ h' = q.h ∧ Mv KV24 g.base q ∧ BlkC q 4 pg (tagA game) T.api_Tag ∧ BlkC q 5 px ⟨ShMove.enc x⟩ T.api_Move ∧ OwnF T.api_Tag ShTag q 3 s2 (asks24 game [] asked).1 ∧ MakC q 1 2 p false [] mk.2.2.2 ∧ BlkC q cb pb ⟨ShBody.enc mk.1⟩ T.api_Body ∧ (cb = 6 ∨ cb = 7)) ?_ ?_
      · intro J hJ
        refine loadAgg_whole bg (tagA_size hgb.1) ?_
        refine loadMoveAt (blkCells bx) ?_
        rw [zBody]
        have lb0 : (⟨ShBody.enc body0⟩ : Array Value).size = 70 := by simpa using lenBody okBody0
        have l1 : (⟨ShBody.enc mk.1⟩ : Array Value).size = 70 := by simpa using lenBody okm.1
        have l2 : (⟨ShBody.enc mk.2.1⟩ : Array Value).size = 70 := by simpa using lenBody okm.2
        have ea : As24h (asks24 game [] asked).2 game number x k 1 = (askT (As24h (asks24 game [] asked).2 game number x k 0) (thD k)).2 := rfl
        have em : As24h (asks24 game [] asked).2 game number x k 2 = mk.2.2.2 := by rw [hmk]; rfl
        have ed : (askT (As24h (asks24 game [] asked).2 game number x k 0) (thD k)).1 = (drawn24 game asked k).1 := rfl
        have ek : makeT24 false (As24h (asks24 game [] asked).2 game number x k 1) game number x (numT ((drawn24 game asked k).1 : Int)) = mk := by rw [hmk]; rfl
        generalize hds : (numT ((drawn24 game asked k).1 : Int)) = nn at ek
        have oknn : ShTag.ok nn := by rw [← hds]; exact okNumS _
        obtain ⟨S, hS⟩ : ∃ S : Nat → Option Nat → Option Nat → GH → Prop, ∀ n o1 o2 q, S n o1 o2 q ↔ (Mv KV24 g.base q ∧ BlkC q 4 pg (tagA game) T.api_Tag ∧ BlkC q 5 px ⟨ShMove.enc x⟩ T.api_Move ∧ OwnF T.api_Tag ShTag q 3 s2 (asks24 game [] asked).1 ∧ MakC q 1 2 p false [] (As24h (asks24 game [] asked).2 game number x k n) ∧
          (∀ p, o1 = some p → BlkC q 6 p ⟨ShBody.enc body0⟩ T.api_Body) ∧ (∀ p, o2 = some p → BlkC q 7 p ⟨ShBody.enc body0⟩ T.api_Body)) := ⟨fun n o1 o2 q => _, fun _ _ _ _ => Iff.rfl⟩
        have sN1 : ∀ {n : Nat} {q : GH} {K : Option Addr → Heap → Prop}, S n none none q → (∀ (p : Nat) (q' : GH), S n (some p) none q' → K (some ⟨p, 0, none⟩) q'.h) → newK q.h ⟨ShBody.enc body0⟩ T.api_Body K := by
          intro n q K s h
          obtain ⟨m, bg, bx, o, xm, f1, f2⟩ := (hS _ _ _ _).1 s
          exact new_C q 6 fun p q' e b => h p q' ((hS _ _ _ _).2 ⟨m.step e (by simp), bg.mv e (by simp), bx.mv e (by simp), o.mv e (by simp), xm.mv e (by simp) (by simp), fun p' h' => by cases h'; exact b, fun p' h' => by cases h'⟩)
        have sN2 : ∀ {n p1 : Nat} {q : GH} {K : Option Addr → Heap → Prop}, S n (some p1) none q → (∀ (p : Nat) (q' : GH), S n (some p1) (some p) q' → K (some ⟨p, 0, none⟩) q'.h) → newK q.h ⟨ShBody.enc body0⟩ T.api_Body K := by
          intro n p1 q K s h
          obtain ⟨m, bg, bx, o, xm, f1, f2⟩ := (hS _ _ _ _).1 s
          exact new_C q 7 fun p q' e b => h p q' ((hS _ _ _ _).2 ⟨m.step e (by simp), bg.mv e (by simp), bx.mv e (by simp), o.mv e (by simp), xm.mv e (by simp) (by simp), fun p' h' => (f1 p' h').mv e (by simp), fun p' h' => by cases h'; exact b⟩)
        have sD : ∀ {o1 o2 : Option Nat} {q : GH} {K : Array Value → Heap → Prop}, S 0 o1 o2 q → (∀ q' : GH, S 1 o1 o2 q' → K (tagA nn) q'.h) → callK Try.prog .agg F.tags_Maker_Draw #[.pointer (some ⟨p, 0, none⟩), .int .i64 k] K q.h := by
          intro o1 o2 q K s h
          obtain ⟨m, bg, bx, o, xm, f1, f2⟩ := (hS _ _ _ _).1 s
          refine drawTab_spec (by decide) xm k hk fun q' e xm' => ⟨_, rfl, ?_⟩
          rw [ed, hds]
          exact h q' ((hS _ _ _ _).2 ⟨m.step e (by simp), bg.mv e (by simp), bx.mv e (by simp), o.mv e (by simp), xm', fun p' h' => (f1 p' h').mv e (by simp), fun p' h' => (f2 p' h').mv e (by simp)⟩)
        have sM : ∀ {o1 o2 : Option Nat} {q : GH} {K : Array Value × Array Value × Int → Heap → Prop}, S 1 o1 o2 q → (∀ q' : GH, S 2 o1 o2 q' → K (⟨ShBody.enc mk.1⟩, ⟨ShBody.enc mk.2.1⟩, mk.2.2.1) q'.h) →
            callK Try.prog (Kd.trip .agg .agg (.int .i64)) F.seal_Make #[.pointer (some ⟨p, 0, none⟩), .agg (tagA game), .int .i64 number, .agg ⟨ShMove.enc x⟩, .agg (tagA nn)] K q.h := by
          intro o1 o2 q K s h
          obtain ⟨m, bg, bx, o, xm, f1, f2⟩ := (hS _ _ _ _).1 s
          refine sealMake_spec (by decide) xm game okg number x okx nn oknn fun q' e xm' => ⟨(_, _, _), rfl, ?_⟩
          rw [ek] at xm' ⊢
          rw [← em] at xm'
          exact h q' ((hS _ _ _ _).2 ⟨m.step e (by simp), bg.mv e (by simp), bx.mv e (by simp), o.mv e (by simp), xm', fun p' h' => (f1 p' h').mv e (by simp), fun p' h' => (f2 p' h').mv e (by simp)⟩)
        have stl : ∀ {n : Nat} {o1 o2 : Option Nat} {q : GH}, S n o1 o2 q → stillAggK (sizeOfT Try.prog T.api_Move) q.h (some ⟨px, 0, none⟩) ⟨ShMove.enc x⟩ := by
          intro n o1 o2 q s
          obtain ⟨m, bg, bx, o, xm, f1, f2⟩ := (hS _ _ _ _).1 s
          exact loadMoveAt (blkCells bx) rfl
        have stg : ∀ {n : Nat} {o1 o2 : Option Nat} {q : GH}, S n o1 o2 q → stillAggK (sizeOfT Try.prog T.api_Tag) q.h (some ⟨pg, 0, none⟩) (tagA game) := by
          intro n o1 o2 q s
          obtain ⟨m, bg, bx, o, xm, f1, f2⟩ := (hS _ _ _ _).1 s
          exact stillAgg_whole bg (tagA_size hgb.1)
        have fin1 : ∀ {p1 p2 : Nat} {q : GH}, S 2 (some p1) (some p2) q → storeAggK (sizeOfT Try.prog T.api_Body) q.h (some ⟨p1, 0, none⟩) ⟨ShBody.enc mk.1⟩ (fun h => storeAggK (sizeOfT Try.prog T.api_Body) h (some ⟨p2, 0, none⟩) ⟨ShBody.enc mk.2.1⟩ (fun h => J (some ⟨p1, 0, none⟩, mk.2.2.1) h)) := by
          intro p1 p2 q s
          obtain ⟨m, bg, bx, o, xm, f1, f2⟩ := (hS _ _ _ _).1 s
          rw [em] at xm
          refine storeAgg_C (f1 p1 rfl) (by rw [szBody]; exact l1) (by rw [szBody, lb0]; decide) oneBody fun q8 m8 b8 => ?_
          rw [overA_all (by rw [lb0]; simpa using l1)] at b8
          refine storeAgg_C ((f2 p2 rfl).mv m8 (by simp)) (by rw [szBody]; exact l2) (by rw [szBody, lb0]; decide) oneBody fun q9 m9 b9 => ?_
          exact hJ _ _ ⟨q9, p1, 6, rfl, rfl, (m.step m8 (by simp)).step m9 (by simp), (bg.mv m8 (by simp)).mv m9 (by simp), (bx.mv m8 (by simp)).mv m9 (by simp), (o.mv m8 (by simp)).mv m9 (by simp), (xm.mv m8 (by simp) (by simp)).mv m9 (by simp) (by simp), b8.mv m9 (by simp), by simp⟩
        have fin2 : ∀ {p1 p2 : Nat} {q : GH}, S 2 (some p1) (some p2) q → storeAggK (sizeOfT Try.prog T.api_Body) q.h (some ⟨p2, 0, none⟩) ⟨ShBody.enc mk.1⟩ (fun h => storeAggK (sizeOfT Try.prog T.api_Body) h (some ⟨p1, 0, none⟩) ⟨ShBody.enc mk.2.1⟩ (fun h => J (some ⟨p2, 0, none⟩, mk.2.2.1) h)) := by
          intro p1 p2 q s
          obtain ⟨m, bg, bx, o, xm, f1, f2⟩ := (hS _ _ _ _).1 s
          rw [em] at xm
          refine storeAgg_C (f2 p2 rfl) (by rw [szBody]; exact l1) (by rw [szBody, lb0]; decide) oneBody fun q8 m8 b8 => ?_
          rw [overA_all (by rw [lb0]; simpa using l1)] at b8
          refine storeAgg_C ((f1 p1 rfl).mv m8 (by simp)) (by rw [szBody]; exact l2) (by rw [szBody, lb0]; decide) oneBody fun q9 m9 b9 => ?_
          exact hJ _ _ ⟨q9, p2, 7, rfl, rfl, (m.step m8 (by simp)).step m9 (by simp), (bg.mv m8 (by simp)).mv m9 (by simp), (bx.mv m8 (by simp)).mv m9 (by simp), (o.mv m8 (by simp)).mv m9 (by simp), (xm.mv m8 (by simp) (by simp)).mv m9 (by simp) (by simp), b8.mv m9 (by simp), by simp⟩
        have st : S 0 none none q2 := (hS _ _ _ _).2 ⟨m, bg, bx, o2', x2', fun _ e => (by cases e), fun _ e => (by cases e)⟩
        clear hS m bg bx o2' x2' hJ ea em ed ek hds hmk hX
        repeat' (first
          | with_reducible exact fin1 st
          | with_reducible exact fin2 st
          | with_reducible exact stl st
          | with_reducible exact stg st
          | (with_reducible refine sN2 st ?_; intro s' q' st; try dsimp only)
          | (with_reducible refine sN1 st ?_; intro s' q' st; try dsimp only)
          | (with_reducible refine sD st ?_; intro q' st; try dsimp only)
          | (with_reducible refine sM st ?_; intro q' st; try dsimp only)
          | with_reducible refine And.intro ?_ ?_)
      · rintro _ _ ⟨q4, pb, cb, rfl, rfl, m, bg, bx, o, xm, bb, hcb⟩
        have herr : mk.2.2.1 = (made24 game number x asked k).2.1 := by
          rw [hmk]; unfold makeT24 made24
          split
          · rename_i h; exact h.symm
          · rfl
        dsimp only
        by_cases hz : (made24 game number x asked k).2.1 = 0
        · rw [if_neg (by simp [herr, hz])]
          have e1 : mk = (sealB24 (made24 game number x asked k).1, openB24 x (numT ((drawn24 game asked k).1 : Int)), 0, (made24 game number x asked k).2.2) := by
            rw [hmk]; unfold makeT24; rw [if_pos (by exact hz)]; rfl
          have okt : ShTag.ok (made24 game number x asked k).1 := moveT22_tag _ _ _ _ _ _
          rw [e1] at bb xm
          dsimp only at bb xm
          have hc4 : cb ∉ [2] ∧ cb ∉ ([] : List Nat) := by rcases hcb with rfl | rfl <;> simp
          have ct : CellsC q4 cb pb 6 (ShTag.enc (made24 game number x asked k).1) := cellsTo (bodyAt (okSealB okt) (blkCells bb)).sealed (by simp)
          clear bb hmk e1
          have hout : outAt24 game number x asked k 1 = (asks24 game [] asked).1 ++ [(made24 game number x asked k).1, numT ((askT (made24 game number x asked k).2.2 (thM game (made24 game number x asked k).1)).1 : Int)] := rfl
          have hask : askAt24 game number x asked k 1 = (askT (made24 game number x asked k).2.2 (thM game (made24 game number x asked k).1)).2 := rfl
          have h1len := asks24_len game asked []
          generalize made24 game number x asked k = mt at hz okt xm ct hout hask H herr hX
          have htb := okTagB okt
          simp only [fldK_some]
          refine sliceArr_C 0 32 rfl rfl (by decide) ?_
          have rg : RdC 1 q4 4 ⟨some ⟨pg, 0 + 0 * sizeOfT Try.prog T.uint8, none⟩, 32 - 0, 32 - 0⟩ (game.map byV) := cellsRd (cellsTo (blkCells (by rw [← tagEnc]; exact bg)) (by simp)) hgb.1.symm
          generalize (⟨some ⟨pg, 0 + 0 * sizeOfT Try.prog T.uint8, none⟩, 32 - 0, 32 - 0⟩ : Sl) = gs at rg
          refine sliceArr_C 0 32 rfl rfl (by decide) ?_
          have rt : RdC 1 q4 cb ⟨some ⟨pb, 0 + 6 + 0 * sizeOfT Try.prog T.uint8, none⟩, 32 - 0, 32 - 0⟩ (mt.1.map byV) := cellsRd (cellsTo ct (by simp)) htb.1.symm
          have rtc : (⟨some ⟨pb, 0 + 6 + 0 * sizeOfT Try.prog T.uint8, none⟩, 32 - 0, 32 - 0⟩ : Sl).n ≤ (⟨some ⟨pb, 0 + 6 + 0 * sizeOfT Try.prog T.uint8, none⟩, 32 - 0, 32 - 0⟩ : Sl).c := Nat.le_refl _
          generalize (⟨some ⟨pb, 0 + 6 + 0 * sizeOfT Try.prog T.uint8, none⟩, 32 - 0, 32 - 0⟩ : Sl) = ts at rt rtc
          refine loadTagAt (cellsTo ct (by simp)) okt ?_
          refine newSl_C q4 cb rfl fun s5 q5 m5 o5 _ _ => ?_
          have rr : RowsC q5 cb s5 [mt.1] := RowsC.one o5.rd (rt.mv m5 (by simp)) rtc
          refine macTab_spec (by decide) (xm.mv m5 (by simp) (by simp)) gs s5 game _ (rg.mv m5 (by simp)) (by rw [hgb.1]; omega) rr (by simp [total, htb.1]) (by simp) fun q6 m6 x6 => ⟨_, rfl, ?_⟩
          rw [show [mt.1].flatten = mt.1 from by simp] at x6 ⊢
          refine ⟨?_, ?_⟩
          · exact loadTagAt (cellsTo ((ct.mv m5 (by simp)).mv m6 hc4.1) (by simp)) okt rfl
          replace m := (m.step m5 (by simp)).step m6 (by simp)
          replace o := (o.mv m5 (by simp)).mv m6 (by simp)
          replace bg := (bg.mv m5 (by simp)).mv m6 (by simp)
          replace bx := (bx.mv m5 (by simp)).mv m6 (by simp)
          rw [← tagEnc]
          refine mkTwo_C q6 8 okt (okNumS _) fun s7 q7 m7 o7 => ?_
          replace m := m.step m7 (by simp)
          refine appendTags_C (o.mv m7 (by simp)) (o7.slc rfl (by simp)) (by have := o7.len; have := o.len; simp at *; omega) fun s8 q8 m8 o8 => ?_
          rw [show IntKind.i64.wrap (((0 : Nat) : Int) + 1) = ((1 : Nat) : Int) from by decide]
          refine hX _ _ ⟨1, s8, q8, by omega, rfl, rfl, m.step m8 (by simp), (bg.mv m7 (by simp)).mv m8 (by simp), (bx.mv m7 (by simp)).mv m8 (by simp), by rw [hout]; exact o8, fun _ => by rw [hask]; exact (x6.mv m7 (by simp) (by simp)).mv m8 (by simp) (by simp), fun _ => hz⟩ (by simp)
        · rw [if_pos (by simpa [herr] using hz)]
          show R (.tuple #[.slice none 0 0, .int .i64 mk.2.2.1]) q4.h
          rw [herr]
          exact H ⟨none, 0, 0⟩ (g.via q4 fun _ => 0) (m.via (by simp) _) fun h => absurd h hz
    · have : i = 1 := by omega
      subst this
      rw [if_neg (by simp)]
      rw [show IntKind.i64.wrap (((1 : Nat) : Int) + 1) = ((2 : Nat) : Int) from by decide]
      refine hX _ _ ⟨2, s2, q2, by omega, rfl, rfl, m, bg, bx, o2, fun h => absurd h (by decide), fun _ => he (by decide)⟩ (by simp)
  · rw [if_neg (by simp; omega)]
    have : i = 2 := by omega
    subst this
    have hz := he (by decide)
    have := H s (g.via q fun _ => c) (m.via (by simp) _) fun _ => o.via m (by simp) (fun _ => c)
    rw [hz] at this
    exact this

set_option maxHeartbeats 1000000 in
theorem SealHides_spec (g : GH) (mx : MaxC g 0) (game : List Int) (okg : ShTag.ok game) (number : Int) (x y : MoveT) (okx : ShMove.ok x) (oky : ShMove.ok y) (va : Sl) (asked : List (List Int)) (ha : SlC g 0 (.sl (.int .u8)) va asked) (hxl : ∀ x ∈ asked, x.length ≤ 2000000)
    (k : Int) (hk : -9223372036854775808 ≤ k ∧ k ≤ 9223372036854775807) {R : Value → Heap → Prop} (H : ∀ g' : GH, Mv [] g g' → R (.bool true) g'.h) :
    HC Try.prog F.law24_SealHides #[.agg (tagA game), .int .i64 number, .agg ⟨ShMove.enc x⟩, .agg ⟨ShMove.enc y⟩, .slice va.a va.n va.c, .int .i64 k] R g.h := by
  refine law24_SealHides.calls (asked4 := va) ?_
  unfold law24_SealHides.body
  have hgb := okTagB okg
  have hn : va.n = asked.length := ha.len
  obtain ⟨ra, hby, _⟩ := ha.rows
  have m := Mv.refl [1, 2, 3, 4] g.base
  have mx0 : ∀ q : GH, Mv [1, 2, 3, 4] g.base q → MaxC q 0 := fun q m => mx.base.mv m (by simp)
  have ra0 : ∀ q : GH, Mv [1, 2, 3, 4] g.base q → RowsC q 0 va asked := fun q m => ra.arg m (by simp)
  have fin : ∀ q : GH, Mv [1, 2, 3, 4] g.base q → R (.bool true) q.h := fun q m => H (g.via q fun _ => 0) (m.via (by simp) _)
  refine new_C g.base 1 fun pg q1 m1 bg => ?_
  refine new_C q1 2 fun px q2 m2 bx => ?_
  refine new_C q2 2 fun py q3 m3 by_ => ?_
  replace m := ((m.step m1 (by simp)).step m2 (by simp)).step m3 (by simp)
  replace bg := (bg.mv m2 (by simp)).mv m3 (by simp)
  replace bx := bx.mv m3 (by simp)
  refine awake24_spec q3 fun q4 m4 => ⟨true, rfl, ?_⟩
  replace m := m.step m4 (by simp)
  replace bg := bg.mv m4 (by simp)
  replace bx := bx.mv m4 (by simp)
  replace by_ := by_.mv m4 (by simp)
  try dsimp only
  rw [if_neg (by simp)]
  by_cases hbig : (va.n : Int) > 120
  · rw [if_pos (by simpa using hbig)]
    exact fin q4 m
  rw [if_neg (by simpa using hbig)]
  refine sliceArr_C 0 32 rfl rfl (by decide) ?_
  have rg : RdC 1 q4 1 ⟨some ⟨pg, 0 + 0 * sizeOfT Try.prog T.uint8, none⟩, 32 - 0, 32 - 0⟩ (game.map byV) := cellsRd (cellsTo (blkCells (by rw [← tagEnc]; exact bg)) (by simp)) hgb.1.symm
  refine tagsMark_spec (mx0 q4 m) rg (Nat.le_refl _) hgb.2 (by rw [hgb.1]; omega) fun q5 m5 => ⟨_, rfl, ?_⟩
  clear rg
  replace m := m.step m5 (by simp)
  replace bg := bg.mv m5 (by simp)
  replace bx := bx.mv m5 (by simp)
  replace by_ := by_.mv m5 (by simp)
  try dsimp only
  by_cases hm : markT game = true
  · rw [if_pos hm]
    exact fin q5 m
  rw [if_neg hm]
  have hl : asked.length ≤ 1000 := by omega
  refine loadAgg_whole bg (tagA_size hgb.1) ?_
  refine loadMoveAt (blkCells bx) ?_
  refine view24_spec q5 (mx0 q5 m) game okg number x okx va asked (ra0 q5 m) hby hxl hl k hk 3 fun s1 q6 m6 o1 => ⟨(_, _), rfl, ?_⟩
  replace m := m.step m6 (by simp)
  replace bg := bg.mv m6 (by simp)
  replace by_ := by_.mv m6 (by simp)
  try dsimp only
  refine loadAgg_whole bg (tagA_size hgb.1) ?_
  refine loadMoveAt (blkCells by_) ?_
  refine view24_spec q6 (mx0 q6 m) game okg number y oky va asked (ra0 q6 m) hby hxl hl k hk 4 fun s2 q7 m7 o2 => ⟨(_, _), rfl, ?_⟩
  replace m := m.step m7 (by simp)
  try dsimp only
  by_cases hx : (made24 game number x asked k).2.1 = 0
  · rw [if_neg (by simp [hx])]
    by_cases hy : (made24 game number y asked k).2.1 = 0
    · rw [if_neg (by simp [hy])]
      replace o1 := (o1 hx).mv m7 (by simp)
      replace o2 := o2 hy
      have hlen := outAt24_len game number y asked k 2
      rw [← run24_same game hgb.2 number x y asked hby k hx hy] at o2
      have ho : (run24 game number x asked k).length ≤ 100000 := by
        have h2 := outAt24_len game number x asked k 2
        have : outAt24 game number x asked k 2 = run24 game number x asked k := rfl
        rw [this] at h2
        omega
      generalize run24 game number x asked k = run at o1 o2 ho
      clear hlen
      have r1 : SlC q7 3 ShTag s1 run := o1.slc rfl (by omega)
      have r2 : SlC q7 4 ShTag s2 run := o2.slc rfl (by omega)
      have n1 : s1.n = run.length := r1.len
      have n2 : s2.n = run.length := r2.len
      refine joinW_intro (fun _ h' => h' = q7.h) ?_ ?_
      · intro J hJ
        refine loopW_rule (fun st h' => ∃ i : Nat, i ≤ run.length ∧ st = (i : Int) ∧ q7.h = h') (fun st => run.length - st.toNat) ⟨0, by omega, rfl, rfl⟩ ?_
        rintro X _ _ ⟨i, hi, rfl, rfl⟩ hX
        try dsimp only
        by_cases hlt : i < run.length
        · rw [if_pos (by simp; omega), if_pos (by simp; omega)]
          refine r1.idxF rfl szF_Tag (by decide) hlt fun b1 o1 hcs ok hel => ?_
          refine loadF hcs szF_Tag (by decide) hel ?_
          refine r2.idxF rfl szF_Tag (by decide) hlt fun b2 o2 hcs' ok' hel' => ?_
          refine loadF hcs' szF_Tag (by decide) hel' ?_
          refine neqF_Tag ok ok' fun r hr => ?_
          rw [if_neg (fun h => (hr.1 h) rfl), wrapSucc (by omega)]
          exact hX _ _ ⟨i + 1, by omega, rfl, rfl⟩ (by simp; omega)
        · rw [if_neg (by simp; omega)]
          exact hJ _ _ rfl
      · rintro _ _ rfl
        have hb : ((s1.n : Int) == (s2.n : Int)) = true := by rw [n1, n2]; simp
        rw [hb]
        exact fin q7 m
    · rw [if_pos (by simpa using hy)]
      exact fin q7 m
  · rw [if_pos (by simpa using hx)]
    exact fin q7 m

theorem SealHides_walk {h : Heap} (mx : MaxC ⟨h, fun _ => 0⟩ 0) (t : Array Value) (z : List Int) (w : Lay h ShTag z t.toList) (number : Int) (hn : (Lit.int IntKind.i64 number).wf = true) (c2 : Array Value) (x : MoveT) (w2 : Lay h ShMove x c2.toList) (c3 : Array Value) (y : MoveT) (w3 : Lay h ShMove y c3.toList)
    (a4 : Option Addr) (l4 m4 : Nat) (asked : List (List Int)) (w4 : Lay h (.sl (.sl (.int .u8))) asked [.slice a4 l4 m4]) (hxl : ∀ x ∈ asked, x.length ≤ 2000000) (k : Int) (hk : (Lit.int IntKind.i64 k).wf = true) :
    HC Try.prog F.law24_SealHides #[.agg t, .int .i64 number, .agg c2, .agg c3, .slice a4 l4 m4, .int .i64 k] (fun v h' => v = .bool true ∧ Ext h h') h := by
  obtain ⟨t⟩ := t
  obtain ⟨c2⟩ := c2
  obtain ⟨c3⟩ := c3
  obtain ⟨rfl, ok1⟩ := LayC.enc (s := ShTag) rfl (w.arg (Mv.refl [] ⟨h, fun _ => 0⟩) (by simp))
  obtain ⟨rfl, ok2⟩ := LayC.enc (s := ShMove) rfl (w2.arg (Mv.refl [] ⟨h, fun _ => 0⟩) (by simp))
  obtain ⟨rfl, ok3⟩ := LayC.enc (s := ShMove) rfl (w3.arg (Mv.refl [] ⟨h, fun _ => 0⟩) (by simp))
  have te : ∀ u : List Int, (⟨ShTag.enc u⟩ : Array Value) = tagA u := fun u => by rw [encTag]
  rw [te]
  exact SealHides_spec ⟨h, fun _ => 0⟩ mx z ok1 number x y ok2 ok3 ⟨a4, l4, m4⟩ asked (w4.arg (Mv.refl [] _) (by simp)) hxl k (by simp only [Lit.wf, Bool.and_eq_true, decide_eq_true_eq] at hk; exact hk) fun g' m => ⟨rfl, m.ext (by simp)⟩

end Go.Proofs.Ytijipdaofojbiaa
