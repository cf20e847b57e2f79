/-
  The statement SealTakes.
-/
import Derived.Test.YtejjeggaofpbiaaGreatKSealMakes
import Derived.Test.YtejjeggaofpbiaaGreatKFlat
set_option linter.unusedSimpArgs false
set_option linter.unusedVariables false
namespace Go.Proofs.YtejjeggaofpbiaaGreat
open Go Go.Ev

/-! ### The document's envelope -/
def renSegs (pv : Value) (x : EnvT) : List (List Value) := [[pv], ShTag.enc x.game, [.int .i64 x.state], [.int .i64 x.no], ShTag.enc x.tag, ShMove.enc x.last, [.bool x.opened]]
def renA (pv : Value) (x : EnvT) : Array Value := ⟨(renSegs pv x).flatten⟩
structure RenC (g : GH) (c p pm : Nat) (x : EnvT) : Prop where
  blk : BlkC g c p (renA (.pointer (some ⟨pm, 0, none⟩)) x) T.zugzwangref24_Envelope
  ok : ShEnv.ok x
  st : 1 ≤ x.state ∧ x.state ≤ 3
theorem RenC.mv {K : List Nat} {g g' : GH} {c p pm : Nat} {x : EnvT} (e : RenC g c p pm x) (m : Mv K g g') (h : c ∉ K) : RenC g' c p pm x := ⟨e.blk.mv m h, e.ok, e.st⟩
theorem RenC.re {K : List Nat} {g q : GH} {c p pm : Nat} {x : EnvT} (e : RenC q c p pm x) (m : Mv K g q) {φ : Nat → Nat} (h : φ c = c ∨ Fresh g c) : RenC (g.via q φ) (φ c) p pm x := ⟨e.blk.re m h, e.ok, e.st⟩
structure RenAt (g : GH) (c p pm : Nat) (x : EnvT) : Prop where
  maker : CellsC g c p 0 [.pointer (some ⟨pm, 0, none⟩)]
  game : CellsC g c p 1 (ShTag.enc x.game)
  state : CellsC g c p 33 [.int .i64 x.state]
  no : CellsC g c p 34 [.int .i64 x.no]
  tag : CellsC g c p 35 (ShTag.enc x.tag)
  last : CellsC g c p 67 (ShMove.enc x.last)
  opened : CellsC g c p 70 [.bool x.opened]
theorem RenC.parts {g : GH} {c p pm : Nat} {x : EnvT} (e : RenC g c p pm x) : RenAt g c p pm x := by
  have h0 : CellsC g c p 0 ([.pointer (some ⟨pm, 0, none⟩)] ++ (ShTag.enc x.game ++ ([.int .i64 x.state] ++ ([.int .i64 x.no] ++ (ShTag.enc x.tag ++ (ShMove.enc x.last ++ ([.bool x.opened] ++ []))))))) := blkCells e.blk
  have h1 := cellsSnd (n := 1) h0 rfl
  have h2 := cellsSnd (n := 32) h1 (lenTag e.ok.1)
  have h3 := cellsSnd (n := 1) h2 rfl
  have h4 := cellsSnd (n := 1) h3 rfl
  have h5 := cellsSnd (n := 32) h4 (lenTag e.ok.2.2.1)
  have h6 := cellsSnd (n := 3) h5 rfl
  exact ⟨cellsFst h0, cellsTo (cellsFst h1) (by omega), cellsTo (cellsFst h2) (by omega), cellsTo (cellsFst h3) (by omega), cellsTo (cellsFst h4) (by omega), cellsTo (cellsFst h5) (by omega), cellsTo (cellsFst h6) (by omega)⟩
theorem renLen (pv : Value) {x : EnvT} (ok : ShEnv.ok x) : (renA pv x).size = 71 := by simp [renA, renSegs, lenTag ok.1, lenTag ok.2.2.1, lenMove]
theorem overA_single24 {cells : Array Value} {o : Nat} {v : Value} (h : o < cells.size) : overA cells o [v] = cells.setIfInBounds o v := by
  obtain ⟨l⟩ := cells
  have h' : o < l.length := by simpa using h
  unfold overA
  rw [List.setIfInBounds_toArray, List.set_eq_take_append_cons_drop, if_pos h']
  simp
theorem renSetState (pv : Value) (x : EnvT) (ok : ShEnv.ok x) (n : Int) : (renA pv x).setIfInBounds 33 (.int .i64 n) = renA pv (x.game, x.no, x.tag, n, x.last, x.opened, ()) := by
  rw [← overA_single24 (by rw [renLen pv ok]; decide)]
  have := seg_over (renSegs pv x) 2 [.int .i64 x.state] [.int .i64 n] rfl rfl
  rw [show ((renSegs pv x).take 2).flatten.length = 33 from by simp [renSegs, lenTag ok.1]] at this
  exact this
theorem renSetNo (pv : Value) (x : EnvT) (ok : ShEnv.ok x) (n : Int) : (renA pv x).setIfInBounds 34 (.int .i64 n) = renA pv (x.game, n, x.tag, x.state, x.last, x.opened, ()) := by
  rw [← overA_single24 (by rw [renLen pv ok]; decide)]
  have := seg_over (renSegs pv x) 3 [.int .i64 x.no] [.int .i64 n] rfl rfl
  rw [show ((renSegs pv x).take 3).flatten.length = 34 from by simp [renSegs, lenTag ok.1]] at this
  exact this
theorem renSetTag (pv : Value) (x : EnvT) (ok : ShEnv.ok x) (t : List Int) (ht : ShTag.ok t) : overA (renA pv x) 35 (ShTag.enc t) = renA pv (x.game, x.no, t, x.state, x.last, x.opened, ()) := by
  have := seg_over (renSegs pv x) 4 (ShTag.enc x.tag) (ShTag.enc t) rfl (by rw [lenTag ht, lenTag ok.2.2.1])
  rw [show ((renSegs pv x).take 4).flatten.length = 35 from by simp [renSegs, lenTag ok.1]] at this
  exact this
theorem renSetLast (pv : Value) (x : EnvT) (ok : ShEnv.ok x) (mv : MoveT) : overA (renA pv x) 67 (ShMove.enc mv) = renA pv (x.game, x.no, x.tag, x.state, mv, x.opened, ()) := by
  have := seg_over (renSegs pv x) 5 (ShMove.enc x.last) (ShMove.enc mv) rfl rfl
  rw [show ((renSegs pv x).take 5).flatten.length = 67 from by simp [renSegs, lenTag ok.1, lenTag ok.2.2.1]] at this
  exact this
theorem renSetOpened (pv : Value) (x : EnvT) (ok : ShEnv.ok x) (b : Bool) : (renA pv x).setIfInBounds 70 (.bool b) = renA pv (x.game, x.no, x.tag, x.state, x.last, b, ()) := by
  rw [← overA_single24 (by rw [renLen pv ok]; decide)]
  have := seg_over (renSegs pv x) 6 [.bool x.opened] [.bool b] rfl rfl
  rw [show ((renSegs pv x).take 6).flatten.length = 70 from by simp [renSegs, lenTag ok.1, lenTag ok.2.2.1, lenMove]] at this
  exact this
theorem bldRen (m : Option Addr) (t : List Int) (ht : ShTag.ok t) (w : World) : (Instr.build T.zugzwangref24_Envelope #[(0, .pointer m), (1, .agg (tagA t)), (2, .int .i64 1)]).run Tryz.prog w = .ok (.agg (renA (.pointer m) (t, 0, zero32, 1, move0, false, ()))) w := by
  have te : tagA t = ⟨ShTag.enc t⟩ := by rw [encTag]
  rw [te]
  have h := build_segs (P := Tryz.prog) (t := T.zugzwangref24_Envelope) (fs := structFs Tryz.prog T.zugzwangref24_Envelope) (parts := #[(0, .pointer m), (1, .agg ⟨ShTag.enc t⟩), (2, .int .i64 1)]) [[.pointer none], ShTag.enc zero32, [.int .i64 0], [.int .i64 0], ShTag.enc zero32, ShMove.enc move0, [.bool false]] (by kernel_rfl) (fun w => by kernel_rfl) (fun w => by kernel_rfl) (fun p hp => by
    simp only [List.mem_cons, List.mem_nil_iff, or_false] at hp
    rcases hp with rfl | rfl | rfl
    · exact ⟨_, rfl, rfl⟩
    · exact ⟨_, rfl, by show (ShTag.enc t).length = _; rw [lenTag ht, lenTag ok0]⟩
    · exact ⟨_, rfl, rfl⟩) w
  rw [h]
  rfl
theorem ref24New_spec (g : GH) (d pm : Nat) (game : List Int) (okg : ShTag.ok game) {R : Value → Heap → Prop} (H : ∀ (p : Nat) (g' : GH), Mv [] g g' → RenC g' d p pm (game, 0, zero32, 1, move0, false, ()) → R (.pointer (some ⟨p, 0, none⟩)) g'.h) :
    HC Tryz.prog F.ref24_New #[.pointer (some ⟨pm, 0, none⟩), .agg (tagA game)] R g.h := by
  refine ref24_New.calls ?_
  unfold ref24_New.body
  refine new_C g 0 fun pg q1 m1 bg => ?_
  refine loadAgg_whole bg (tagA_size (okTagB okg).1) ?_
  refine ⟨_, bldRen _ game okg, ?_⟩
  refine new_C q1 d fun p q2 m2 b => H p q2 (m1.step m2 (by simp)) ⟨b, okEnv okg (by decide) ok0 (by decide) okMove0, (show (1 : Int) ≤ 1 ∧ (1 : Int) ≤ 3 by decide)⟩

/-! ### The document's why -/
def refWhy24 (x : EnvT) (e : EntryT) : Int :=
  if ¬ entryOk e = true then 2 else if ¬ e.game = x.game then 14
  else if e.what.say = 4 then 0
  else if x.state = 1 ∧ (e.what.say = 6 ∨ e.what.say = 7) then 18
  else if x.state = 1 then 0
  else if x.state = 2 ∧ e.what.say = 6 then (if ¬ e.number = IntKind.i64.wrap (x.no + 1) then 11 else 0)
  else if x.state = 3 ∧ e.what.say = 7 then (if ¬ e.number = IntKind.i64.wrap (x.no + 2) then 11
    else if ¬ (moveT22 true [] x.game x.no e.what.move e.what.nonce).2.1 = 0 then 16 else if ¬ (moveT22 true [] x.game x.no e.what.move e.what.nonce).1 = x.tag then 16 else 0)
  else 18
theorem why_real (A : List ShThing.T) (x : EnvT) (e : EntryT) : (whyT24 true A x e).2 = A ∧ (whyT24 true A x e).1 = (whyT24 true [] x e).1 := by
  obtain ⟨a, b, c⟩ := moveT22_real A x.game x.no e.what.move e.what.nonce
  unfold whyT24
  by_cases h1 : ¬ entryOk e = true
  · simp only [if_pos h1]; exact ⟨trivial, trivial⟩
  simp only [if_neg h1]
  by_cases h2 : ¬ e.game = x.game
  · simp only [if_pos h2]; exact ⟨trivial, trivial⟩
  simp only [if_neg h2]
  by_cases h3 : ¬ (deedT e.what.say).1 = 0 ∧ ¬ (deedT e.what.say).1 = x.state
  · simp only [if_pos h3]; exact ⟨trivial, trivial⟩
  simp only [if_neg h3]
  by_cases h4 : (deedT e.what.say).2 > 0 ∧ ¬ e.number = IntKind.i64.wrap (x.no + (deedT e.what.say).2)
  · simp only [if_pos h4]; exact ⟨trivial, trivial⟩
  simp only [if_neg h4]
  by_cases h5 : (deedT e.what.say).1 = 3
  · simp only [if_pos h5, a, b, c]; exact ⟨trivial, trivial⟩
  · simp only [if_neg h5]; exact ⟨trivial, trivial⟩
theorem refWhy_eq (x : EnvT) (st : 1 ≤ x.state ∧ x.state ≤ 3) (e : EntryT) : refWhy24 x e = (whyT24 true [] x e).1 := by
  unfold refWhy24 whyT24
  by_cases h1 : ¬ entryOk e = true
  · simp only [if_pos h1]
  simp only [if_neg h1]
  by_cases h2 : ¬ e.game = x.game
  · simp only [if_pos h2]
  simp only [if_neg h2]
  have hs := sayGood (by simpa using h1)
  have hst : x.state = 1 ∨ x.state = 2 ∨ x.state = 3 := by omega
  generalize moveT22 true [] x.game x.no e.what.move e.what.nonce = mt
  have ef : fitsT x.tag mt.1 mt.2.1 = 0 ↔ (mt.2.1 = 0 ∧ mt.1 = x.tag) := by
    unfold fitsT
    by_cases h : mt.2.1 = 0
    · rw [if_neg (by simp [h])]
      by_cases h' : x.tag = mt.1
      · rw [if_pos h']; simp [h, h']
      · rw [if_neg h']; simp [h, Ne.symm h']
    · rw [if_pos h]; simp [h]
  by_cases c6 : x.state = 2 ∧ e.what.say = 6
  · obtain ⟨k, h⟩ := c6
    have hd : deedT e.what.say = (2, 1) := by rw [h]; rfl
    rw [hd]
    by_cases a1 : e.number = IntKind.i64.wrap (x.no + 1)
    · simp [h, k, ← a1]
    · simp [h, k, a1]
  by_cases c7 : x.state = 3 ∧ e.what.say = 7
  · obtain ⟨k, h⟩ := c7
    have hd : deedT e.what.say = (3, 2) := by rw [h]; rfl
    rw [hd]
    by_cases a1 : e.number = IntKind.i64.wrap (x.no + 2)
    · by_cases q1 : mt.2.1 = 0
      · by_cases q2 : mt.1 = x.tag
        · have := ef.2 ⟨q1, q2⟩
          simp only [if_pos this]
          simp [h, k, ← a1, q1, q2]
        · have : ¬ fitsT x.tag mt.1 mt.2.1 = 0 := fun z => q2 (ef.1 z).2
          simp only [if_neg this]
          simp [h, k, ← a1, q1, q2]
      · have : ¬ fitsT x.tag mt.1 mt.2.1 = 0 := fun z => q1 (ef.1 z).1
        simp only [if_neg this]
        simp [h, k, ← a1, q1]
    · simp [h, k, a1]
  rcases hs with h | h | h | h | h | h | h <;> rcases hst with k | k | k <;> simp [h, k, deedT] at c6 c7 ⊢

set_option maxHeartbeats 2000000 in
theorem ref24Why_spec {g : GH} {cr cm p pm : Nat} {x : EnvT} (v : RenC g cr p pm x) (xm : Mk22 g cm pm) (e : EntryT) (ok : ShEntry.ok e) {R : Value → Heap → Prop} (H : ∀ g' : GH, Mv [] g g' → R (.int .i64 (refWhy24 x e)) g'.h) :
    HC Tryz.prog F.ref24_Envelope_Why #[.pointer (some ⟨p, 0, none⟩), .agg ⟨ShEntry.enc e⟩] R g.h := by
  refine ref24_Envelope_Why.calls ?_
  unfold ref24_Envelope_Why.body
  obtain ⟨y, hy, hyn⟩ := fresh_exists g [cr, cm]
  obtain ⟨y2, hy2, hyn2⟩ := fresh_exists g [cr, cm, y]
  simp only [List.mem_cons, List.mem_nil_iff, or_false, not_or] at hyn hyn2
  have m := Mv.refl [y, y2] g
  have hre : ∀ j ∈ [y, y2], j ∈ ([] : List Nat) ∨ Fresh g j := by
    intro j hj
    simp only [List.mem_cons, List.mem_nil_iff, or_false] at hj
    rcases hj with rfl | rfl
    · exact .inr hy
    · exact .inr hy2
  refine new_C g y fun pe q1 m1 be => ?_
  replace m := m.step m1 (by simp)
  refine loadAgg_whole be (by rw [szEntry]; simpa using (lenEntry ok).symm) ?_
  refine ref18Entry_spec q1 e ok fun q2 m2 => ⟨_, rfl, ?_⟩
  replace m := m.step m2 (by simp)
  replace be := be.mv m2 (by simp)
  replace v := (v.mv m1 (by simp)).mv m2 (by simp)
  replace xm := (xm.mv m1 (by simp)).mv m2 (by simp)
  have E := entryAt ok (blkCells be)
  have B := bodyAt ok.2.2.2.1 E.what
  have V := v.parts
  try dsimp only
  have HH : ∀ z : Int, refWhy24 x e = z → R (.int .i64 z) q2.h := by
    intro z hz
    have := H (g.via q2 id) (m.re id hre)
    rw [hz] at this
    exact this
  unfold refWhy24 at HH
  by_cases hok : entryOk e = true
  rotate_left
  · rw [if_pos (by simpa using hok)]
    exact HH 2 (by rw [if_pos hok])
  rw [if_neg (by simpa using hok)]
  rw [if_neg (by simp [hok])] at HH
  simp only [derefK_some, fldK_some]
  refine loadTagAt (cellsTo E.game (by omega)) ok.1 ?_
  refine loadTagAt (cellsTo V.game (by omega)) v.ok.1 ?_
  refine neqF_Tag ok.1 v.ok.1 fun r hr => ?_
  by_cases hg : e.game = x.game
  rotate_left
  · rw [if_pos (hr.2 hg)]
    exact HH 14 (by rw [if_pos hg])
  rw [if_neg (fun h => hr.1 h hg)]
  rw [if_neg (by simp [hg])] at HH
  refine loadK_cells B.say e.what.say (j := 0) (k := .int .i64) (by omega) rfl ?_
  by_cases h4 : e.what.say = 4
  · rw [if_pos (by simpa using h4)]
    exact HH 0 (by rw [if_pos h4])
  rw [if_neg (by simpa using h4)]
  rw [if_neg h4] at HH
  refine joinW_intro (fun s h' => s = decide (x.state = 1 ∧ (e.what.say = 6 ∨ e.what.say = 7)) ∧ h' = q2.h) ?_ ?_
  · intro J hJ
    refine loadK_cells V.state x.state (j := 0) (k := .int .i64) rfl rfl ?_
    by_cases h1 : x.state = 1
    · rw [if_pos (by simpa using h1)]
      by_cases h6 : e.what.say = 6
      · rw [if_pos (by simpa using h6)]
        exact hJ _ _ ⟨by simp [h1, h6], rfl⟩
      · rw [if_neg (by simpa using h6)]
        exact hJ _ _ ⟨by simp [h1, h6]; rfl, rfl⟩
    · rw [if_neg (by simpa using h1)]
      exact hJ _ _ ⟨by simp [h1], rfl⟩
  rintro _ _ ⟨rfl, rfl⟩
  try dsimp only
  by_cases h18 : x.state = 1 ∧ (e.what.say = 6 ∨ e.what.say = 7)
  · rw [if_pos (by simpa using h18)]
    exact HH 18 (by rw [if_pos h18])
  rw [if_neg (by simpa using h18)]
  rw [if_neg h18] at HH
  refine loadK_cells V.state x.state (j := 0) (k := .int .i64) rfl rfl ?_
  by_cases h1 : x.state = 1
  · rw [if_pos (by simpa using h1)]
    exact HH 0 (by rw [if_pos h1])
  rw [if_neg (by simpa using h1)]
  rw [if_neg h1] at HH
  refine joinW_intro (fun s h' => s = decide (x.state = 2 ∧ e.what.say = 6) ∧ h' = q2.h) ?_ ?_
  · intro J hJ
    refine loadK_cells V.state x.state (j := 0) (k := .int .i64) rfl rfl ?_
    by_cases h2 : x.state = 2
    · rw [if_pos (by simpa using h2)]
      exact hJ _ _ ⟨by simp [h2]; rfl, rfl⟩
    · rw [if_neg (by simpa using h2)]
      exact hJ _ _ ⟨by simp [h2], rfl⟩
  rintro _ _ ⟨rfl, rfl⟩
  try dsimp only
  by_cases h26 : x.state = 2 ∧ e.what.say = 6
  · rw [if_pos (by simpa using h26)]
    rw [if_pos h26] at HH
    refine loadK_cells E.number e.number (j := 0) (k := .int .i64) rfl rfl ?_
    refine loadK_cells V.no x.no (j := 0) (k := .int .i64) rfl rfl ?_
    by_cases hn : e.number = IntKind.i64.wrap (x.no + 1)
    · rw [if_neg (by simpa using hn)]
      exact HH 0 (by rw [if_neg (by simpa using hn)])
    · rw [if_pos (by simpa using hn)]
      exact HH 11 (by rw [if_pos hn])
  rw [if_neg (by simpa using h26)]
  rw [if_neg h26] at HH
  refine joinW_intro (fun s h' => s = decide (x.state = 3 ∧ e.what.say = 7) ∧ h' = q2.h) ?_ ?_
  · intro J hJ
    refine loadK_cells V.state x.state (j := 0) (k := .int .i64) rfl rfl ?_
    by_cases h3 : x.state = 3
    · rw [if_pos (by simpa using h3)]
      exact hJ _ _ ⟨by simp [h3]; rfl, rfl⟩
    · rw [if_neg (by simpa using h3)]
      exact hJ _ _ ⟨by simp [h3], rfl⟩
  rintro _ _ ⟨rfl, rfl⟩
  try dsimp only
  by_cases h37 : x.state = 3 ∧ e.what.say = 7
  rotate_left
  · rw [if_neg (by simpa using h37)]
    exact HH 18 (by rw [if_neg h37])
  rw [if_pos (by simpa using h37)]
  rw [if_pos h37] at HH
  refine loadK_cells E.number e.number (j := 0) (k := .int .i64) rfl rfl ?_
  refine loadK_cells V.no x.no (j := 0) (k := .int .i64) rfl rfl ?_
  by_cases hn : e.number = IntKind.i64.wrap (x.no + 2)
  rotate_left
  · rw [if_pos (by simpa using hn)]
    exact HH 11 (by rw [if_pos hn])
  rw [if_neg (by simpa using hn)]
  clear HH
  have hR : refWhy24 x e = if ¬ (moveT22 true [] x.game x.no e.what.move e.what.nonce).2.1 = 0 then 16 else if ¬ (moveT22 true [] x.game x.no e.what.move e.what.nonce).1 = x.tag then 16 else 0 := by
    unfold refWhy24
    rw [if_neg (by simp [hok]), if_neg (by simp [hg]), if_neg h4, if_neg h18, if_neg h1, if_neg h26, if_pos h37, if_neg (by simpa using hn)]
  rw [hR] at H
  have okt := moveT22_tag true [] x.game x.no e.what.move e.what.nonce
  have te : ∀ u : List Int, (⟨ShTag.enc u⟩ : Array Value) = tagA u := fun u => by rw [encTag]
  refine joinW_intro (fun s h' => ∃ (q : GH) (pt : Nat), s = (some ⟨pt, 0, none⟩, (moveT22 true [] x.game x.no e.what.move e.what.nonce).2.1) ∧ h' = q.h ∧ Mv [y, y2] g q ∧ RenC q cr p pm x ∧ BlkC q y2 pt (tagA (moveT22 true [] x.game x.no e.what.move e.what.nonce).1) T.api_Tag) ?_ ?_
  · intro J hJ
    refine loadK_cells V.maker (some ⟨pm, 0, none⟩ : Option Addr) (j := 0) (k := .ptr) rfl rfl ?_
    refine loadTagAt (cellsTo V.game (by omega)) v.ok.1 ?_
    refine loadK_cells V.no x.no (j := 0) (k := .int .i64) rfl rfl ?_
    refine loadMoveAt (cellsTo B.move (by omega)) ?_
    refine loadTagAt (cellsTo B.nonce (by omega)) ok.2.2.2.1.2.2.2.2.2.1 ?_
    rw [te, te]
    refine ⟨?_, ?_⟩
    · refine ref22Move_spec xm x.game v.ok.1 x.no e.what.move ok.2.2.2.1.2.1 e.what.nonce ok.2.2.2.1.2.2.2.2.2.1 [] fun q3 m3 => ⟨(_, _), rfl, ?_⟩
      rw [zTag]
      refine newStore_C q3 y2 (by rw [szTag]; simp [(okTagB okt).1]) (by rw [szTag]; simp) (fun v hv => oneBy _ v hv) fun pt q4 m4 bt => ?_
      exact hJ _ _ ⟨q4, pt, rfl, rfl, (m.step m3 (by simp)).step m4 (by simp), (v.mv m3 (by simp)).mv m4 (by simp), bt⟩
    · rw [zTag]
      refine new_C q2 y2 fun pt q3 m3 bt => ?_
      refine ref22Move_spec (xm.mv m3 (by simp)) x.game v.ok.1 x.no e.what.move ok.2.2.2.1.2.1 e.what.nonce ok.2.2.2.1.2.2.2.2.2.1 [] fun q4 m4 => ⟨(_, _), rfl, ?_⟩
      refine storeAgg_C (bt.mv m4 (by simp)) (by rw [szTag]; simp [(okTagB okt).1]) (by rw [szTag]; simp) (fun v hv => oneBy _ v hv) fun q5 m5 b5 => ?_
      rw [overA_all (by simp [(okTagB okt).1])] at b5
      exact hJ _ _ ⟨q5, pt, rfl, rfl, ((m.step m3 (by simp)).step m4 (by simp)).step m5 (by simp), ((v.mv m3 (by simp)).mv m4 (by simp)).mv m5 (by simp [Ne.symm hyn2.1]), b5⟩
  rintro _ _ ⟨q3, pt, rfl, rfl, m, v, bt⟩
  try dsimp only
  generalize moveT22 true [] x.game x.no e.what.move e.what.nonce = mt at okt H bt ⊢
  have V := v.parts
  have H3 := H (g.via q3 id) (m.re id hre)
  by_cases h0 : mt.2.1 = 0
  rotate_left
  · rw [if_pos (by simpa using h0)]
    rw [if_pos h0] at H3
    exact H3
  rw [if_neg (by simpa using h0)]
  rw [if_neg (by simpa using h0)] at H3
  refine loadAgg_whole bt (tagA_size (okTagB okt).1) ?_
  refine loadTagAt (cellsTo V.tag (by omega)) v.ok.2.2.1 ?_
  rw [te]
  refine tag_neq (okTagB okt).1 (okTagB okt).2 (okTagB v.ok.2.2.1).1 (okTagB v.ok.2.2.1).2 ?_
  by_cases ht : mt.1 = x.tag
  · rw [if_neg (by simp [ht])]
    rw [if_neg (by simp [ht])] at H3
    exact H3
  · rw [if_pos (by simp [ht])]
    rw [if_pos ht] at H3
    exact H3

set_option maxHeartbeats 2000000 in
theorem ref24Take_spec {g : GH} {cr cm p pm d : Nat} (hcm : ¬ cr = cm) (hdc : ¬ d = cr) {x : EnvT} (v : RenC g cr p pm x) (xm : Mk22 g cm pm) (s : Sl) (xs : List EntryT) (hr : SlC g d ShEntry s xs) {R : Value → Heap → Prop}
    (H : ∀ g' : GH, Mv [cr] g g' → RenC g' cr p pm (takeT24 true [] x xs).2.2 → R (.int .i64 (takeT24 true [] x xs).1) g'.h) :
    HC Tryz.prog F.ref24_Envelope_Take #[.pointer (some ⟨p, 0, none⟩), .slice s.a s.n s.c] R g.h := by
  refine ref24_Envelope_Take.calls (l1 := s) ?_
  unfold ref24_Envelope_Take.body
  have hn : s.n = xs.length := hr.len
  have hsm := hr.small
  refine loopW_rule (fun st h' => ∃ (i : Nat) (q : GH) (z : EnvT), i ≤ xs.length ∧ st = (i : Int) ∧ h' = q.h ∧ Mv [cr] g q ∧ RenC q cr p pm z ∧ (takeT24 true [] x xs).1 = (takeT24 true [] z (xs.drop i)).1 ∧ (takeT24 true [] x xs).2.2 = (takeT24 true [] z (xs.drop i)).2.2) (fun st => xs.length - st.toNat)
    ⟨0, g, x, by omega, rfl, rfl, Mv.refl _ _, v, rfl, rfl⟩ ?_
  rintro X _ _ ⟨i, q, z, hi, rfl, rfl, m, v, ht1, ht2⟩ hX
  try dsimp only
  by_cases hlt : i < xs.length
  rotate_left
  · rw [if_neg (by simp; omega)]
    rw [List.drop_eq_nil_of_le (by omega), takeT24_nil] at ht1 ht2
    have := H q m (by rw [ht2]; exact v)
    rw [ht1] at this
    exact this
  rw [if_pos (by simp; omega)]
  have hdrop : xs.drop i = xs[i] :: xs.drop (i + 1) := List.drop_eq_getElem_cons hlt
  rw [hdrop, takeT24_cons] at ht1 ht2
  have sl := hr.mv m (by simp [hdc])
  refine sl.idxF rfl szF_Entry (by decide) hlt fun b o hcs ok hel => ?_
  refine loadEntryAt hcs ok ?_
  refine ref24Why_spec v (xm.mv m (by simp [Ne.symm hcm])) xs[i] ok fun q2 m2 => ⟨_, rfl, ?_⟩
  replace m := m.step m2 (by simp)
  replace v := v.mv m2 (by simp)
  replace sl := sl.mv m2 (by simp)
  have hwz := refWhy_eq z v.st xs[i]
  have hw2 := (why_real [] z xs[i]).1
  rw [hwz]
  rw [hw2] at ht1 ht2
  try dsimp only
  by_cases h0 : (whyT24 true [] z xs[i]).1 = 0
  rotate_left
  · rw [if_pos (by simpa using h0)]
    rw [if_neg h0] at ht1 ht2
    have := H q2 m (by rw [ht2]; exact v)
    rw [ht1] at this
    exact this
  rw [if_neg (by simpa using h0)]
  rw [if_pos h0] at ht1 ht2
  have nxt : ∀ q' : GH, Mv [cr] g q' → RenC q' cr p pm (does24 z xs[i]) → X (IntKind.i64.wrap ((i : Int) + 1)) q'.h := by
    intro q' m' v'
    rw [wrapSucc (by omega)]
    exact hX _ _ ⟨i + 1, q', _, by omega, rfl, rfl, m', v', ht1, ht2⟩ (by simp; omega)
  have ld : ∀ (q' : GH) (K : Addr → Prop), SlC q' d ShEntry s xs → (∀ b o, EntryAt q' d b o xs[i] → BodyAt q' d b (o + 65) xs[i].what → K ⟨b, o, none⟩) → idxK s (i : Int) (sizeOfT Tryz.prog T.api_Entry) K := by
    intro q' K sl hK
    refine sl.idxF rfl szF_Entry (by decide) hlt fun b o hcs ok hel => ?_
    exact hK b o (entryAt ok hcs) (bodyAt ok.2.2.2.1 (entryAt ok hcs).what)
  generalize hee : xs[i] = e at *
  refine ld q2 _ sl fun b o E B => ?_
  simp only [fldK_some]
  refine loadK_cells B.say e.what.say (j := 0) (k := .int .i64) (by omega) rfl ?_
  have slv : ∀ {q' : GH}, Mv [cr] q2 q' → SlC q' d ShEntry s xs := fun m' => sl.mv m' (by simp [hdc])
  unfold does24 at nxt
  by_cases h5 : e.what.say = 5
  · rw [if_pos (by simpa using h5)]
    rw [if_pos h5] at nxt
    simp only [derefK_some, fldK_some]
    refine store_C v.blk (by rw [renLen _ v.ok]; decide) rfl fun q3 m3 b3 => ?_
    rw [renSetState _ _ v.ok] at b3
    refine ld q3 _ (slv m3) fun b o E B => ?_
    simp only [fldK_some]
    refine loadK_cells E.number e.number (j := 0) (k := .int .i64) rfl rfl ?_
    have ok3 : ShEnv.ok (z.game, z.no, z.tag, 2, z.last, z.opened, ()) := okEnv v.ok.1 v.ok.2.1 v.ok.2.2.1 (by decide) v.ok.2.2.2.2.1
    refine store_C b3 (by rw [renLen _ ok3]; decide) rfl fun q4 m4 b4 => ?_
    rw [renSetNo _ _ ok3] at b4
    have ok4 : ShEnv.ok (z.game, e.number, z.tag, 2, z.last, z.opened, ()) := okEnv v.ok.1 ok.2.1 v.ok.2.2.1 (by decide) v.ok.2.2.2.2.1
    have mm := m3.step m4 (by simp)
    refine ld q4 _ (slv mm) fun b o E B => ?_
    simp only [fldK_some]
    refine loadTagAt (cellsTo B.sealed (by omega)) ok.2.2.2.1.2.2.2.2.1 ?_
    refine storeAgg_C b4 (by rw [szTag]; simpa using lenTag ok.2.2.2.1.2.2.2.2.1) (by rw [renLen _ ok4, szTag]; decide) (fun v hv => Sh.enc_one (s := ShTag) rfl v hv) fun q5 m5 b5 => ?_
    have b5' := (renSetTag (.pointer (some ⟨pm, 0, none⟩)) _ ok4 e.what.sealed ok.2.2.2.1.2.2.2.2.1) ▸ b5
    exact nxt q5 ((m.step mm (by simp)).step m5 (by simp)) ⟨b5', okEnv v.ok.1 ok.2.1 ok.2.2.2.1.2.2.2.2.1 (by decide) v.ok.2.2.2.2.1, (show (1 : Int) ≤ 2 ∧ (2 : Int) ≤ 3 by decide)⟩
  rw [if_neg (by simpa using h5)]
  rw [if_neg h5] at nxt
  by_cases h6 : e.what.say = 6
  · rw [if_pos (by simpa using h6)]
    rw [if_pos h6] at nxt
    simp only [derefK_some, fldK_some]
    refine store_C v.blk (by rw [renLen _ v.ok]; decide) rfl fun q3 m3 b3 => ?_
    rw [renSetState _ _ v.ok] at b3
    exact nxt q3 (m.step m3 (by simp)) ⟨b3, okEnv v.ok.1 v.ok.2.1 v.ok.2.2.1 (by decide) v.ok.2.2.2.2.1, (show (1 : Int) ≤ 3 ∧ (3 : Int) ≤ 3 by decide)⟩
  rw [if_neg (by simpa using h6)]
  rw [if_neg h6] at nxt
  by_cases h7 : e.what.say = 7
  · rw [if_pos (by simpa using h7)]
    rw [if_pos h7] at nxt
    simp only [derefK_some, fldK_some]
    refine store_C v.blk (by rw [renLen _ v.ok]; decide) rfl fun q3 m3 b3 => ?_
    rw [renSetState _ _ v.ok] at b3
    have ok3 : ShEnv.ok (z.game, z.no, z.tag, 1, z.last, z.opened, ()) := okEnv v.ok.1 v.ok.2.1 v.ok.2.2.1 (by decide) v.ok.2.2.2.2.1
    refine store_C b3 (by rw [renLen _ ok3]; decide) rfl fun q4 m4 b4 => ?_
    rw [renSetNo _ _ ok3] at b4
    have ok4 : ShEnv.ok (z.game, 0, z.tag, 1, z.last, z.opened, ()) := okEnv v.ok.1 (by decide) v.ok.2.2.1 (by decide) v.ok.2.2.2.2.1
    refine ⟨⟨ShTag.enc zero32⟩, fun w => by rw [encTag]; exact bldTagZ w, ?_⟩
    refine storeAgg_C b4 (by rw [szTag]; simpa using lenTag ok0) (by rw [renLen _ ok4, szTag]; decide) (fun v hv => Sh.enc_one (s := ShTag) rfl v hv) fun q5 m5 b5 => ?_
    have b5' := (renSetTag (.pointer (some ⟨pm, 0, none⟩)) _ ok4 zero32 ok0) ▸ b5
    have ok5 : ShEnv.ok (z.game, 0, zero32, 1, z.last, z.opened, ()) := okEnv v.ok.1 (by decide) ok0 (by decide) v.ok.2.2.2.2.1
    have mm := (m3.step m4 (by simp)).step m5 (by simp)
    refine ld q5 _ (slv mm) fun b o E B => ?_
    simp only [fldK_some]
    refine loadMoveAt (cellsTo B.move (by omega)) ?_
    refine storeAgg_C b5' (by rw [szMove]; rfl) (by rw [renLen _ ok5, szMove]; decide) (oneMove _) fun q6 m6 b6 => ?_
    have b6' := (renSetLast (.pointer (some ⟨pm, 0, none⟩)) _ ok5 e.what.move) ▸ b6
    have ok6 : ShEnv.ok (z.game, 0, zero32, 1, e.what.move, z.opened, ()) := okEnv v.ok.1 (by decide) ok0 (by decide) ok.2.2.2.1.2.1
    refine store_C b6' (by rw [renLen _ ok6]; decide) rfl fun q7 m7 b7 => ?_
    have b7' := (renSetOpened (.pointer (some ⟨pm, 0, none⟩)) _ ok6 true) ▸ b7
    exact nxt q7 (((m.step mm (by simp)).step m6 (by simp)).step m7 (by simp)) ⟨b7', okEnv v.ok.1 (by decide) ok0 (by decide) ok.2.2.2.1.2.1, (show (1 : Int) ≤ 1 ∧ (1 : Int) ≤ 3 by decide)⟩
  · rw [if_neg (by simpa using h7)]
    rw [if_neg h7] at nxt
    exact nxt q2 m v

/-! ### Whether they are the same -/
def Inv24 (x : EnvT) : Prop := x.state = 1 → x.no = 0 ∧ x.tag = zero32
theorem inv_does {x : EnvT} (h : Inv24 x) (e : EntryT) : Inv24 (does24 x e) := by
  unfold does24
  by_cases h5 : e.what.say = 5
  · rw [if_pos h5]; intro k; exact absurd k (by show ¬ (2 : Int) = 1; decide)
  rw [if_neg h5]
  by_cases h6 : e.what.say = 6
  · rw [if_pos h6]; intro k; exact absurd k (by show ¬ (3 : Int) = 1; decide)
  rw [if_neg h6]
  by_cases h7 : e.what.say = 7
  · rw [if_pos h7]; intro _; exact ⟨rfl, rfl⟩
  · rw [if_neg h7]; exact h
theorem inv_take {real : Bool} : ∀ (l : List EntryT) (A : List ShThing.T) (x : EnvT), Inv24 x → Inv24 (takeT24 real A x l).2.2
  | [], A, x, h => h
  | e :: l, A, x, h => by
    rw [takeT24_cons]
    by_cases h0 : (whyT24 real A x e).1 = 0
    · rw [if_pos h0]; exact inv_take l _ _ (inv_does h e)
    · rw [if_neg h0]; exact h
set_option maxHeartbeats 1000000 in
theorem same24_spec {g : GH} {ce cr p pm pr pmr : Nat} {x : EnvT} (v : EnvC g ce p pm x) (r : RenC g cr pr pmr x) (inv : Inv24 x) {R : Value → Heap → Prop} (H : ∀ g' : GH, Mv [] g g' → R (.bool true) g'.h) :
    HC Tryz.prog F.law24_same #[.pointer (some ⟨p, 0, none⟩), .pointer (some ⟨pr, 0, none⟩)] R g.h := by
  refine law24_same.calls ?_
  unfold law24_same.body
  have hsl : (sealT x).1 = x.no ∧ (sealT x).2.1 = x.tag ∧ (sealT x).2.2 = (x.state != 1) := by
    unfold sealT
    by_cases h : x.state = 1
    · rw [if_pos h]
      obtain ⟨a, b⟩ := inv h
      exact ⟨a.symm, b.symm, by simp [h]⟩
    · rw [if_neg h]
      exact ⟨rfl, rfl, by simp [h]⟩
  have okt := v.ok.2.2.1
  have okl : ShMove.ok x.last := v.ok.2.2.2.2.1
  refine envSeal_spec v fun q1 m1 => ⟨((sealT x).1, tagA (sealT x).2.1, (sealT x).2.2), rfl, ?_⟩
  try dsimp only
  rw [hsl.1, hsl.2.1, hsl.2.2, zTag]
  refine newStore_C q1 0 (by rw [szTag]; simp [(okTagB okt).1]) (by rw [szTag]; simp) (fun v hv => oneBy _ v hv) fun pt q2 m2 bt => ?_
  refine envOpened_spec ((v.mv m1 (by simp)).mv m2 (by simp)) fun q3 m3 => ⟨(⟨ShMove.enc x.last⟩, x.opened), rfl, ?_⟩
  try dsimp only
  refine newStore_C q3 0 (by rw [szMove]; rfl) (by rw [szMove]; kernel_rfl) (oneMove _) fun px q4 m4 bx => ?_
  have m := ((m1.step m2 (L := []) (by simp)).step m3 (by simp)).step m4 (by simp)
  have Rr := (r.mv m (by simp)).parts
  replace bt := (bt.mv m3 (by simp)).mv m4 (by simp)
  simp only [derefK_some, fldK_some]
  refine loadK_cells Rr.state x.state (j := 0) (k := .int .i64) rfl rfl ?_
  refine ⟨_, envState_spec (v.mv m (by simp)) ⟨rfl, rfl⟩, ?_⟩
  refine loadK_cells Rr.state x.state (j := 0) (k := .int .i64) rfl rfl ?_
  rw [if_pos (by simp), if_pos (by simp)]
  refine loadK_cells Rr.no x.no (j := 0) (k := .int .i64) rfl rfl ?_
  rw [if_pos (by simp)]
  have te : (⟨ShTag.enc x.tag⟩ : Array Value) = tagA x.tag := by rw [encTag]
  refine loadAgg_whole bt (tagA_size (okTagB okt).1) ?_
  refine loadTagAt (cellsTo Rr.tag (by omega)) okt ?_
  rw [te]
  refine tag_eq (okTagB okt).1 (okTagB okt).2 (okTagB okt).1 (okTagB okt).2 ?_
  rw [if_pos (by simp)]
  refine loadMoveAt (blkCells bx) ?_
  refine loadMoveAt (cellsTo Rr.last (by omega)) ?_
  refine eqMove_F okl okl ?_
  rw [if_pos (by simp)]
  refine loadK_cells Rr.opened x.opened (j := 0) (k := .bool) rfl rfl ?_
  rw [show (x.opened == x.opened) = true from by simp]
  exact H q4 m

/-! ### The law's entries -/
abbrev ShDeed24 : Sh := .pair (.int .i64) (.pair (.int .i64) (.pair ShMove (.pair ShTag (.pair ShEntry .unit))))
abbrev DeedT24 := Int × Int × MoveT × List Int × EntryT × Unit
abbrev DeedT24.kind (d : DeedT24) : Int := d.1
abbrev DeedT24.far (d : DeedT24) : Int := d.2.1
abbrev DeedT24.x (d : DeedT24) : MoveT := d.2.2.1
abbrev DeedT24.nonce (d : DeedT24) : List Int := d.2.2.2.1
abbrev DeedT24.entry (d : DeedT24) : EntryT := d.2.2.2.2.1
def entryT24 (game : List Int) (n : Int) (d : DeedT24) : EntryT :=
  if d.kind % 8 = 1 then (game, n, zero32, (makeT24 true [] game n d.x d.nonce).1, ())
  else if d.kind % 8 = 2 then (game, n, zero32, plainB 6, ())
  else if d.kind % 8 = 3 then (game, n, zero32, (makeT24 true [] game n d.x d.nonce).2.1, ())
  else if d.kind % 8 = 4 then (game, n, zero32, plainB 4, ())
  else if d.kind % 8 = 5 then (game, n, zero32, d.entry.what, ())
  else if d.kind % 8 = 6 then (game, IntKind.i64.wrap (n + d.far), zero32, (makeT24 true [] game n d.x d.nonce).2.1, ())
  else d.entry
theorem wrapI64_wf (n : Int) : -9223372036854775808 ≤ IntKind.i64.wrap n ∧ IntKind.i64.wrap n ≤ 9223372036854775807 := by
  simp only [IntKind.wrap, IntKind.bits, IntKind.signed]; simp; omega
theorem entryT24_ok {game : List Int} {n : Int} {d : DeedT24} (okg : ShTag.ok game) (hn : -9223372036854775808 ≤ n ∧ n ≤ 9223372036854775807) (okd : ShDeed24.ok d) : ShEntry.ok (entryT24 game n d) := by
  have okm := makeT24_ok (real := true) (A := []) (game := game) (number := n) okd.2.2.1 okd.2.2.2.1
  unfold entryT24
  split; · exact okEntry24 okg hn okm.1
  split; · exact okEntry24 okg hn (okPlainB (by decide))
  split; · exact okEntry24 okg hn okm.2
  split; · exact okEntry24 okg hn (okPlainB (by decide))
  split; · exact okEntry24 okg hn okd.2.2.2.2.1.2.2.2.1
  split; · exact okEntry24 okg (wrapI64_wf _) okm.2
  exact okd.2.2.2.2.1
structure DeedAt24 (g : GH) (c b o : Nat) (d : DeedT24) : Prop where
  kind : CellsC g c b o [.int .i64 d.kind]
  far : CellsC g c b (o + 1) [.int .i64 d.far]
  mv : CellsC g c b (o + 2) (ShMove.enc d.x)
  nonce : CellsC g c b (o + 5) (ShTag.enc d.nonce)
  entry : CellsC g c b (o + 37) (ShEntry.enc d.entry)
theorem deedAt24 {g : GH} {c b o : Nat} {x : DeedT24} (ok : ShDeed24.ok x) (h : CellsC g c b o (ShDeed24.enc x)) : DeedAt24 g c b o x := by
  have h1 := cellsSnd (n := 1) h rfl
  have h2 := cellsSnd (n := 1) h1 rfl
  have h3 := cellsSnd (n := 3) h2 rfl
  have h4 := cellsSnd (n := 32) h3 (lenTag ok.2.2.2.1)
  exact ⟨cellsFst h, cellsFst h1, cellsTo (cellsFst h2) (by omega), cellsTo (cellsFst h3) (by omega), cellsTo (cellsFst h4) (by omega)⟩
theorem entSegs (x : EntryT) : (⟨ShEntry.enc x⟩ : Array Value) = ⟨([ShTag.enc x.game, [.int .i64 x.number], ShTag.enc x.ahead, ShBody.enc x.what] : List (List Value)).flatten⟩ := by simp [Sh.enc]
theorem entSetWhat (x : EntryT) (ok : ShEntry.ok x) (b : BodyT) (okb : ShBody.ok b) : overA ⟨ShEntry.enc x⟩ 65 (ShBody.enc b) = ⟨ShEntry.enc (x.game, x.number, x.ahead, b, ())⟩ := by
  rw [entSegs, entSegs]
  have := seg_over [ShTag.enc x.game, [.int .i64 x.number], ShTag.enc x.ahead, ShBody.enc x.what] 3 (ShBody.enc x.what) (ShBody.enc b) rfl (by rw [lenBody okb, lenBody ok.2.2.2.1])
  rw [show ((([ShTag.enc x.game, [.int .i64 x.number], ShTag.enc x.ahead, ShBody.enc x.what] : List (List Value)).take 3).flatten).length = 65 from by simp [lenTag ok.1, lenTag ok.2.2.1]] at this
  exact this
theorem entSetNumber (x : EntryT) (ok : ShEntry.ok x) (n : Int) : (⟨ShEntry.enc x⟩ : Array Value).setIfInBounds 32 (.int .i64 n) = ⟨ShEntry.enc (x.game, n, x.ahead, x.what, ())⟩ := by
  rw [← overA_single24 (by simp [lenEntry ok]), entSegs, entSegs]
  have := seg_over [ShTag.enc x.game, [.int .i64 x.number], ShTag.enc x.ahead, ShBody.enc x.what] 1 [.int .i64 x.number] [.int .i64 n] rfl rfl
  rw [show ((([ShTag.enc x.game, [.int .i64 x.number], ShTag.enc x.ahead, ShBody.enc x.what] : List (List Value)).take 1).flatten).length = 32 from by simp [lenTag ok.1]] at this
  exact this
theorem entSetSay (x : EntryT) (ok : ShEntry.ok x) (n : Int) : (⟨ShEntry.enc x⟩ : Array Value).setIfInBounds 65 (.int .i64 n) = ⟨ShEntry.enc (x.game, x.number, x.ahead, (n, x.what.2), ())⟩ := by
  have e : ∀ y : EntryT, (⟨ShEntry.enc y⟩ : Array Value) = ⟨([ShTag.enc y.game, [.int .i64 y.number], ShTag.enc y.ahead, [.int .i64 y.what.1], Sh.enc (.pair ShMove (.pair .bool (.pair (.int .i64) (.pair ShTag (.pair ShTag .unit))))) y.what.2] : List (List Value)).flatten⟩ := fun y => by simp [Sh.enc]
  rw [← overA_single24 (by simp [lenEntry ok]), e, e]
  have := seg_over [ShTag.enc x.game, [.int .i64 x.number], ShTag.enc x.ahead, [.int .i64 x.what.1], Sh.enc (.pair ShMove (.pair .bool (.pair (.int .i64) (.pair ShTag (.pair ShTag .unit))))) x.what.2] 3 [.int .i64 x.what.1] [.int .i64 n] rfl rfl
  rw [show ((([ShTag.enc x.game, [.int .i64 x.number], ShTag.enc x.ahead, [.int .i64 x.what.1], Sh.enc (.pair ShMove (.pair .bool (.pair (.int .i64) (.pair ShTag (.pair ShTag .unit))))) x.what.2] : List (List Value)).take 3).flatten).length = 65 from by simp [lenTag ok.1, lenTag ok.2.2.1]] at this
  exact this
theorem bldEntryGN (game : List Int) (okg : ShTag.ok game) (n : Int) (w : World) : (Instr.build T.api_Entry #[(0, .agg (tagA game)), (1, .int .i64 n)]).run Tryz.prog w = .ok (.agg ⟨ShEntry.enc (game, n, zero32, body0, ())⟩) w := by
  have te : tagA game = ⟨ShTag.enc game⟩ := by rw [encTag]
  rw [te]
  have h := build_segs (P := Tryz.prog) (t := T.api_Entry) (fs := structFs Tryz.prog T.api_Entry) (parts := #[(0, .agg ⟨ShTag.enc game⟩), (1, .int .i64 n)]) [ShTag.enc zero32, [.int .i64 0], ShTag.enc zero32, ShBody.enc body0] (by kernel_rfl) (fun w => by kernel_rfl) (fun w => by kernel_rfl) (fun p hp => by
    simp only [List.mem_cons, List.mem_nil_iff, or_false] at hp
    rcases hp with rfl | rfl
    · exact ⟨_, rfl, by show (ShTag.enc game).length = _; rw [lenTag okg, lenTag ok0]⟩
    · exact ⟨_, rfl, rfl⟩) w
  rw [h]
  simp [Value.cells, Sh.enc]
theorem oneEntry24 {x : EntryT} : ∀ v ∈ (⟨ShEntry.enc x⟩ : Array Value).toList, v.oneCell' = true := fun v hv => Sh.enc_one (s := ShEntry) rfl v hv

set_option maxHeartbeats 2000000 in
theorem entry24_spec {g : GH} {cm pm : Nat} (xm : Mk22 g cm pm) (game : List Int) (okg : ShTag.ok game) (n : Int) (hn : -9223372036854775808 ≤ n ∧ n ≤ 9223372036854775807) (d : DeedT24) (okd : ShDeed24.ok d) {R : Value → Heap → Prop}
    (H : ∀ g' : GH, Mv [] g g' → R (.agg ⟨ShEntry.enc (entryT24 game n d)⟩) g'.h) :
    HC Tryz.prog F.law24_entry #[.pointer (some ⟨pm, 0, none⟩), .agg (tagA game), .int .i64 n, .agg ⟨ShDeed24.enc d⟩] R g.h := by
  refine law24_entry.calls ?_
  unfold law24_entry.body
  have hgb := okTagB okg
  obtain ⟨y, hy, hyn⟩ := fresh_exists g [cm]
  obtain ⟨y2, hy2, hyn2⟩ := fresh_exists g [cm, y]
  obtain ⟨y3, hy3, hyn3⟩ := fresh_exists g [cm, y, y2]
  obtain ⟨y4, hy4, hyn4⟩ := fresh_exists g [cm, y, y2, y3]
  obtain ⟨y5, hy5, hyn5⟩ := fresh_exists g [cm, y, y2, y3, y4]
  simp only [List.mem_cons, List.mem_nil_iff, or_false, not_or] at hyn hyn2 hyn3 hyn4 hyn5
  have m := Mv.refl [y, y2, y3, y4, y5] g
  have hre : ∀ j ∈ [y, y2, y3, y4, y5], j ∈ ([] : List Nat) ∨ Fresh g j := by
    intro j hj
    simp only [List.mem_cons, List.mem_nil_iff, or_false] at hj
    rcases hj with rfl | rfl | rfl | rfl | rfl
    · exact .inr hy
    · exact .inr hy2
    · exact .inr hy3
    · exact .inr hy4
    · exact .inr hy5
  have okm := makeT24_ok (real := true) (A := []) (game := game) (number := n) okd.2.2.1 okd.2.2.2.1
  have lb0 : (⟨ShBody.enc body0⟩ : Array Value).size = 70 := by simpa using lenBody okBody0
  have le0 : (⟨ShEntry.enc entry0⟩ : Array Value).size = 135 := by simpa using lenEntry okEntry0
  refine new_C g y fun pg q1 m1 bg => ?_
  refine new_C q1 y fun pd q2 m2 bd => ?_
  rw [zEntry]
  refine new_C q2 y2 fun pv q3 m3 bv => ?_
  have e13 := (m1.step m2 (L := []) (by simp)).step m3 (by simp)
  replace m := m.step e13 (by simp)
  replace xm := xm.mv e13 (by simp)
  replace bg := (bg.mv m2 (by simp)).mv m3 (by simp)
  replace bd := bd.mv m3 (by simp)
  have D := deedAt24 okd (blkCells bd)
  refine loadAgg_whole bg (tagA_size hgb.1) ?_
  refine ⟨_, bldEntryGN game okg n, ?_⟩
  have okE : ShEntry.ok (game, n, zero32, body0, ()) := okEntry24 okg hn okBody0
  have leE : (⟨ShEntry.enc (game, n, zero32, body0, ())⟩ : Array Value).size = 135 := by simpa using lenEntry okE
  refine newStore_C q3 y3 (by rw [szEntry]; exact leE) (by rw [szEntry]; exact le0) oneEntry24 fun pe q4 m4 be => ?_
  replace m := m.step m4 (by simp)
  replace xm := xm.mv m4 (by simp)
  replace bg := bg.mv m4 (by simp)
  replace bd := bd.mv m4 (by simp)
  replace bv := bv.mv m4 (by simp)
  have D := deedAt24 okd (blkCells bd)
  refine loadAgg_whole bg (tagA_size hgb.1) ?_
  simp only [fldK_some]
  refine loadMoveAt (cellsTo D.mv (by omega)) ?_
  refine loadTagAt (cellsTo D.nonce (by omega)) okd.2.2.2.1 ?_
  have te : ∀ u : List Int, (⟨ShTag.enc u⟩ : Array Value) = tagA u := fun u => by rw [encTag]
  rw [te]
  refine ref24Make_spec xm game okg n d.x okd.2.2.1 d.nonce okd.2.2.2.1 fun q5 m5 => ⟨(_, _, _), rfl, ?_⟩
  replace m := m.step m5 (by simp)
  replace bd := bd.mv m5 (by simp)
  replace bv := bv.mv m5 (by simp)
  replace be := be.mv m5 (by simp)
  try dsimp only
  obtain ⟨mk, hmk⟩ : ∃ mk, mk = makeT24 true [] game n d.x d.nonce := ⟨_, rfl⟩
  rw [← hmk] at okm ⊢
  have l1 : (⟨ShBody.enc mk.1⟩ : Array Value).size = 70 := by simpa using lenBody okm.1
  have l2 : (⟨ShBody.enc mk.2.1⟩ : Array Value).size = 70 := by simpa using lenBody okm.2
  rw [zBody]
  refine new_C q5 y4 fun pa q6 m6 ba => ?_
  refine new_C q6 y5 fun pb q7 m7 bb => ?_
  refine storeAgg_C (ba.mv m7 (by simp)) (by rw [szBody]; exact l1) (by rw [szBody, lb0]; decide) oneBody fun q8 m8 ba => ?_
  rw [overA_all (by rw [lb0]; simpa using l1)] at ba
  refine storeAgg_C (bb.mv m8 (by simp [hyn5.2.2.2.2])) (by rw [szBody]; exact l2) (by rw [szBody, lb0]; decide) oneBody fun q9 m9 bb => ?_
  rw [overA_all (by rw [lb0]; simpa using l2)] at bb
  replace ba := ba.mv m9 (by simp [Ne.symm hyn5.2.2.2.2])
  have e5 : Mv [y4, y5] q5 q9 := ((((Mv.refl [y4, y5] q5).step m6 (by simp)).step m7 (by simp)).step m8 (by simp)).step m9 (by simp)
  replace m := m.step e5 (by simp)
  replace bd := bd.mv e5 (by simp [Ne.symm hyn4.2.1, Ne.symm hyn5.2.1])
  replace bv := bv.mv e5 (by simp [Ne.symm hyn4.2.2.1, Ne.symm hyn5.2.2.1])
  replace be := be.mv e5 (by simp [Ne.symm hyn4.2.2.2, Ne.symm hyn5.2.2.2.1])
  have D := deedAt24 okd (blkCells bd)
  clear m6 m7 m8 m9 e5
  -- the entry that was made is the result
  have out : ∀ (q : GH) (e' : EntryT), ShEntry.ok e' → Mv [y, y2, y3, y4, y5] g q → BlkC q y2 pv ⟨ShEntry.enc entry0⟩ T.api_Entry → entryT24 game n d = e' →
      storeAggK (sizeOfT Tryz.prog T.api_Entry) q.h (some ⟨pv, 0, none⟩) ⟨ShEntry.enc e'⟩ (fun h => quietK Tryz.prog .agg (Instr.loadAt T.api_Entry (.pointer (some ⟨pv, 0, none⟩))) (fun r => R (.agg r) h) h) := by
    intro q e' ok' m' bv' he
    refine result_C (n := 135) szEntry dEntry bv' le0 (by simpa using lenEntry ok') oneEntry24 fun q10 m10 => ?_
    have := H (g.via q10 id) ((m'.step m10 (by simp)).re id hre)
    rw [he] at this
    exact this
  have fin : ∀ (q : GH) (e' : EntryT), ShEntry.ok e' → Mv [y3] q9 q → BlkC q y3 pe ⟨ShEntry.enc e'⟩ T.api_Entry → entryT24 game n d = e' →
      loadAggK (sizeOfT Tryz.prog T.api_Entry) q.h (some ⟨pe, 0, none⟩) (fun v => storeAggK (sizeOfT Tryz.prog T.api_Entry) q.h (some ⟨pv, 0, none⟩) v (fun h => quietK Tryz.prog .agg (Instr.loadAt T.api_Entry (.pointer (some ⟨pv, 0, none⟩))) (fun r => R (.agg r) h) h)) := by
    intro q e' ok' m' be' he
    refine loadAgg_whole be' (by rw [szEntry]; simpa using (lenEntry ok').symm) ?_
    exact out q e' ok' (m.step m' (by simp)) (bv.mv m' (by simp [Ne.symm hyn3.2.2])) he
  have putB : ∀ (b : BodyT) (K : Heap → Prop), ShBody.ok b → (∀ q : GH, Mv [y3] q9 q → BlkC q y3 pe ⟨ShEntry.enc (game, n, zero32, b, ())⟩ T.api_Entry → K q.h) → storeAggK (sizeOfT Tryz.prog T.api_Body) q9.h (some ⟨pe, 0 + 65, none⟩) ⟨ShBody.enc b⟩ K := by
    intro b K okb hK
    refine storeAgg_C be (by rw [szBody]; simpa using lenBody okb) (by rw [szBody, leE]; decide) oneBody fun q m' b' => ?_
    have b'' := (entSetWhat _ okE b okb) ▸ b'
    exact hK q m' b''
  have putS : ∀ (k : Int) (K : Heap → Prop), (∀ q : GH, Mv [y3] q9 q → BlkC q y3 pe ⟨ShEntry.enc (game, n, zero32, plainB k, ())⟩ T.api_Entry → K q.h) → storeK q9.h (some ⟨pe, 0 + 65 + 0, none⟩) (.int .i64 k) K := by
    intro k K hK
    refine store_C be (by rw [leE]; decide) rfl fun q m' b' => ?_
    have b'' := (entSetSay _ okE k) ▸ b'
    exact hK q m' b''
  refine loadK_cells D.kind d.kind (j := 0) (k := .int .i64) rfl rfl ?_
  refine Pick_spec d.kind 8 okd.1 (by decide) ⟨_, rfl, ?_⟩
  try dsimp only
  have hu : entryT24 game n d = if d.kind % 8 = 1 then (game, n, zero32, mk.1, ()) else if d.kind % 8 = 2 then (game, n, zero32, plainB 6, ()) else if d.kind % 8 = 3 then (game, n, zero32, mk.2.1, ()) else if d.kind % 8 = 4 then (game, n, zero32, plainB 4, ()) else if d.kind % 8 = 5 then (game, n, zero32, d.entry.what, ()) else if d.kind % 8 = 6 then (game, IntKind.i64.wrap (n + d.far), zero32, mk.2.1, ()) else d.entry := by rw [hmk]; rfl
  by_cases h1 : d.kind % 8 = 1
  · rw [if_pos (by simpa using h1)]
    refine loadBodyAt (blkCells ba) okm.1 ?_
    refine putB _ _ okm.1 fun q m' b' => ?_
    exact fin q _ (okEntry24 okg hn okm.1) m' b' (by rw [hu, if_pos h1])
  rw [if_neg (by simpa using h1)]
  rw [if_neg h1] at hu
  by_cases h2 : d.kind % 8 = 2
  · rw [if_pos (by simpa using h2)]
    refine putS 6 _ fun q m' b' => ?_
    exact fin q _ (okEntry24 okg hn (okPlainB (by decide))) m' b' (by rw [hu, if_pos h2])
  rw [if_neg (by simpa using h2)]
  rw [if_neg h2] at hu
  by_cases h3 : d.kind % 8 = 3
  · rw [if_pos (by simpa using h3)]
    refine loadBodyAt (blkCells bb) okm.2 ?_
    refine putB _ _ okm.2 fun q m' b' => ?_
    exact fin q _ (okEntry24 okg hn okm.2) m' b' (by rw [hu, if_pos h3])
  rw [if_neg (by simpa using h3)]
  rw [if_neg h3] at hu
  by_cases h4 : d.kind % 8 = 4
  · rw [if_pos (by simpa using h4)]
    refine putS 4 _ fun q m' b' => ?_
    exact fin q _ (okEntry24 okg hn (okPlainB (by decide))) m' b' (by rw [hu, if_pos h4])
  rw [if_neg (by simpa using h4)]
  rw [if_neg h4] at hu
  have EE := entryAt okd.2.2.2.2.1 D.entry
  by_cases h5 : d.kind % 8 = 5
  · rw [if_pos (by simpa using h5)]
    refine loadBodyAt (cellsTo EE.what (by omega)) okd.2.2.2.2.1.2.2.2.1 ?_
    refine putB _ _ okd.2.2.2.2.1.2.2.2.1 fun q m' b' => ?_
    exact fin q _ (okEntry24 okg hn okd.2.2.2.2.1.2.2.2.1) m' b' (by rw [hu, if_pos h5])
  rw [if_neg (by simpa using h5)]
  rw [if_neg h5] at hu
  by_cases h6 : d.kind % 8 = 6
  · rw [if_pos (by simpa using h6)]
    refine loadBodyAt (blkCells bb) okm.2 ?_
    refine putB _ _ okm.2 fun q m' b' => ?_
    have D2 := deedAt24 okd (blkCells (bd.mv m' (by simp [Ne.symm hyn3.2.1])))
    refine loadK_cells D2.far d.far (j := 0) (k := .int .i64) (by omega) rfl ?_
    have okF : ShEntry.ok (game, n, zero32, mk.2.1, ()) := okEntry24 okg hn okm.2
    refine store_C b' (by simpa using (show 32 < (ShEntry.enc (game, n, zero32, mk.2.1, ())).length by rw [lenEntry okF]; decide)) rfl fun q11 m11 b11 => ?_
    have b11' := (entSetNumber _ okF (IntKind.i64.wrap (n + d.far))) ▸ b11
    exact fin q11 _ (okEntry24 okg (wrapI64_wf _) okm.2) (m'.step m11 (by simp)) b11' (by rw [hu, if_pos h6])
  · rw [if_neg (by simpa using h6)]
    rw [if_neg h6] at hu
    refine loadEntryAt (cellsTo D.entry (by omega)) okd.2.2.2.2.1 ?_
    exact out q9 _ okd.2.2.2.2.1 m bv hu

theorem take_real (A : List ShThing.T) : ∀ (l : List EntryT) (x : EnvT), (takeT24 true A x l).2.1 = A ∧ (takeT24 true A x l).1 = (takeT24 true [] x l).1 ∧ (takeT24 true A x l).2.2 = (takeT24 true [] x l).2.2
  | [], x => ⟨rfl, rfl, rfl⟩
  | e :: l, x => by
    obtain ⟨a, b⟩ := why_real A x e
    obtain ⟨a', b'⟩ := why_real [] x e
    rw [takeT24_cons, takeT24_cons, a, b, a', b']
    by_cases h : (whyT24 true [] x e).1 = 0
    · rw [if_pos h, if_pos h]; exact take_real A l _
    · rw [if_neg h, if_neg h]; exact ⟨rfl, rfl, rfl⟩
theorem pieces24 (i : Nat) (hi : i < 9223372036854775807) : ∃ j : Nat, (j = 1 ∨ j = 2) ∧ IntKind.i64.wrap (1 + (IntKind.i64.wrap (Int.tdiv (Int.tmod (i : Int) 5) 4))) = (j : Int) := by
  obtain ⟨k, hk, e⟩ := tmod_ex (i : Int) (by omega) 5 (by decide)
  have e' : Int.tmod (i : Int) 5 = (k : Int) := e
  rw [e']
  have : k = 0 ∨ k = 1 ∨ k = 2 ∨ k = 3 ∨ k = 4 := by omega
  rcases this with rfl | rfl | rfl | rfl | rfl
  · exact ⟨1, .inl rfl, by decide⟩
  · exact ⟨1, .inl rfl, by decide⟩
  · exact ⟨1, .inl rfl, by decide⟩
  · exact ⟨1, .inl rfl, by decide⟩
  · exact ⟨2, .inr rfl, by decide⟩
theorem szDeed24 : sizeOfT Tryz.prog T.zugzwanglaw24_Deed = ShDeed24.size := by kernel_rfl
def tag1 : List Int := 1 :: List.replicate 31 0
theorem okTag1 : ShTag.ok tag1 := okTag (by simp [tag1]) (by simp [tag1, isByte])
theorem bldTag1 (w : World) : (Instr.build T.api_Tag #[(0, .int .u8 1)]).run Tryz.prog w = .ok (.agg (tagA tag1)) w := by kernel_rfl
def deed1 : DeedT24 := (1, 0, move0, tag1, entry0, ())
theorem okDeed1 : ShDeed24.ok deed1 := ⟨(show -9223372036854775808 ≤ (1 : Int) ∧ (1 : Int) ≤ 9223372036854775807 by decide), okI0, okMove0, okTag1, okEntry0, trivial⟩
theorem bldDeed1 (w : World) : (Instr.build T.zugzwanglaw24_Deed #[(0, .int .i64 1), (3, .agg (tagA tag1))]).run Tryz.prog w = .ok (.agg ⟨ShDeed24.enc deed1⟩) w := by kernel_rfl

set_option maxHeartbeats 4000000 in
theorem SealTakes_spec (g : GH) (game : List Int) (okg : ShTag.ok game) (s : Sl) (l : List DeedT24) (hl : SlC g 0 ShDeed24 s l) {R : Value → Heap → Prop} (H : ∀ g' : GH, Mv [] g g' → R (.bool true) g'.h) :
    HC Tryz.prog F.law24_SealTakes #[.agg (tagA game), .slice s.a s.n s.c] R g.h := by
  refine law24_SealTakes.calls (l1 := s) ?_
  unfold law24_SealTakes.body
  have hgb := okTagB okg
  have m := Mv.refl [1, 2, 3, 4, 5, 6, 7, 8, 9] g.base
  have fin : ∀ q : GH, Mv [1, 2, 3, 4, 5, 6, 7, 8, 9] g.base q → HC Tryz.prog F.law24_awake #[] (fun v h' => ∃ x : Bool, v = .bool x ∧ R (.bool x) h') q.h := fun q m => awake24_spec q fun q' m' => ⟨true, rfl, H (g.via q' fun _ => 0) ((m.step m' (by simp)).via (by simp) _)⟩
  have hn : s.n = l.length := hl.len
  have sl0 : ∀ q : GH, Mv [1, 2, 3, 4, 5, 6, 7, 8, 9] g.base q → SlC q 0 ShDeed24 s l := fun q m => hl.arg m (by simp)
  refine new_C g.base 3 fun pg q1 m1 bg => ?_
  replace m := m.step m1 (by simp)
  by_cases hbig : (s.n : Int) > 120
  · rw [if_pos (by simpa using hbig)]
    exact fin q1 m
  rw [if_neg (by simpa using hbig)]
  refine ⟨_, bldMk24, ?_⟩
  refine new_C q1 4 fun pk q2 m2 bk => ?_
  replace m := m.step m2 (by simp)
  have mk : Mk22 q2 4 pk := ⟨_, _, bk, rfl⟩
  replace bg := bg.mv m2 (by simp)
  refine loadAgg_whole bg (tagA_size hgb.1) ?_
  refine makNew_spec q2 1 2 true ⟨none, 0, 0⟩ [] (RdC.nil _ _ 0 _ _) (by simp) (by simp) fun pm q3 m3 xm => ⟨_, rfl, ?_⟩
  replace m := m.step m3 (by simp)
  replace bg := bg.mv m3 (by simp)
  replace mk := mk.mv m3 (by simp)
  refine ⟨stillAgg_whole bg (tagA_size hgb.1), ?_⟩
  refine envNew_spec xm game okg 6 fun p q4 m4 v => ⟨(_, _), rfl, ?_⟩
  replace m := m.step m4 (by simp)
  replace bg := bg.mv m4 (by simp)
  replace mk := mk.mv m4 (by simp)
  replace xm := xm.mv m4 (by simp) (by simp)
  refine loadAgg_whole bg (tagA_size hgb.1) ?_
  refine ref24New_spec q4 5 pk game okg fun pr q5 m5 r => ⟨_, rfl, ?_⟩
  replace m := m.step m5 (by simp)
  replace bg := bg.mv m5 (by simp)
  replace mk := mk.mv m5 (by simp)
  replace xm := xm.mv m5 (by simp) (by simp)
  replace v := v.mv m5 (by simp)
  try dsimp only
  rw [if_neg (by simp)]
  refine loopW_rule (fun st h' => ∃ (i c ce p : Nat) (q : GH) (x : EnvT), i ≤ l.length ∧ c ≤ i ∧ st = (some ⟨p, 0, none⟩, (c : Int), (i : Int)) ∧ h' = q.h ∧ Mv [1, 2, 3, 4, 5, 6, 7, 8, 9] g.base q ∧ BlkC q 3 pg (tagA game) T.api_Tag ∧ Mk22 q 4 pk ∧ MakC q 1 2 pm true [] [] ∧ EnvC q ce p pm x ∧ RenC q 5 pr pk x ∧ Inv24 x ∧ (ce = 6 ∨ ce = 7)) (fun st => l.length - st.2.2.toNat)
    ⟨0, 0, 6, p, q5, _, by omega, by omega, rfl, rfl, m, bg, mk, xm, v, r, fun _ => ⟨rfl, rfl⟩, .inl rfl⟩ ?_
  clear m bg mk xm v r bk m1 m2 m3 m4 m5
  rintro X _ _ ⟨i, c, ce, p, q, x, hi, hc, rfl, rfl, m, bg, mk, xm, v, r, inv, hce⟩ hX
  have c1 : ¬ ce = 1 := by omega
  have c2 : ¬ ce = 2 := by omega
  have c3 : ¬ ce = 3 := by omega
  have c4 : ¬ ce = 4 := by omega
  have c5 : ¬ ce = 5 := by omega
  have c8 : ¬ ce = 8 := by omega
  have c9 : ¬ ce = 9 := by omega
  have mce : ∀ j ∈ [2, ce], j ∈ [1, 2, 3, 4, 5, 6, 7, 8, 9] := by
    intro j hj
    simp only [List.mem_cons, List.mem_nil_iff, or_false] at hj ⊢
    omega
  try dsimp only
  by_cases hlt : i < l.length
  rotate_left
  · rw [if_neg (by simp; omega)]
    exact fin q m
  rw [if_pos (by simp; omega)]
  refine (sl0 q m).idxF rfl szDeed24 (by decide) hlt fun b o hcs okd hel => ?_
  have D := deedAt24 okd hcs
  simp only [fldK_some]
  refine loadK_cells D.kind l[i].kind (j := 0) (k := .int .i64) (by omega) rfl ?_
  refine Pick_spec l[i].kind 8 okd.1 (by decide) ⟨_, rfl, ?_⟩
  try dsimp only
  by_cases h7 : l[i].kind % 8 = 7
  · rw [if_pos (by simpa using h7)]
    refine envCopy_spec v (13 - ce) fun p2 q2 m2 v2 => ⟨_, rfl, ?_⟩
    replace m := m.step m2 (by simp)
    replace bg := bg.mv m2 (by simp)
    replace mk := mk.mv m2 (by simp)
    replace xm := xm.mv m2 (by simp) (by simp)
    replace v := v.mv m2 (by simp)
    replace r := r.mv m2 (by simp)
    refine loadAgg_whole bg (tagA_size hgb.1) ?_
    refine ⟨_, bldTag1, ?_⟩
    refine ⟨_, bldDeed1, ?_⟩
    refine entry24_spec mk game okg (c : Int) (by omega) deed1 okDeed1 fun q3 m3 => ⟨_, rfl, ?_⟩
    have oke := entryT24_ok (n := (c : Int)) okg (by omega) okDeed1
    refine mkEntry_C q3 8 oke fun s4 q4 m4 o4 hc4 => ?_
    have m34 := m3.step m4 (L := []) (by simp)
    replace m := m.step m34 (by simp)
    replace bg := bg.mv m34 (by simp)
    replace mk := mk.mv m34 (by simp)
    replace xm := xm.mv m34 (by simp) (by simp)
    replace v := v.mv m34 (by simp)
    replace v2 := v2.mv m34 (by simp)
    replace r := r.mv m34 (by simp)
    refine envTake_spec (by decide) c2 c1 (by decide) (Ne.symm c8) v xm s4 _ (o4.slc rfl (by simp)) fun q5 m5 xm _ => ⟨_, rfl, ?_⟩
    rw [(take_real [] _ x).1] at xm
    rw [wrapSucc (by omega)]
    exact hX _ _ ⟨i + 1, c, 13 - ce, p2, q5, x, by omega, by omega, rfl, rfl, m.step m5 mce, bg.mv m5 (by simp [Ne.symm c3]), mk.mv m5 (by simp [Ne.symm c4]), xm, v2.mv m5 (by simp; omega), r.mv m5 (by simp [Ne.symm c5]), inv, by omega⟩ (by simp; omega)
  rw [if_neg (by simpa using h7)]
  refine (sl0 q m).idxF rfl szDeed24 (by decide) hlt fun b1 o1 hcs1 _ hel1 => ?_
  refine (sl0 q m).idxF rfl szDeed24 (by decide) hlt fun b2 o2 hcs2 _ hel2 => ?_
  simp only [fldK_some]
  refine ⟨by decide, by decide, ?_⟩
  refine loadAgg_whole bg (tagA_size hgb.1) ?_
  refine loadF hcs1 szDeed24 (by decide) hel1 ?_
  refine loadEntryAt (cellsTo (deedAt24 okd hcs2).entry (by omega)) okd.2.2.2.2.1 ?_
  refine entry24_spec mk game okg (c : Int) (by omega) l[i] okd fun q2 m2 => ⟨_, rfl, ?_⟩
  have oke := entryT24_ok (n := (c : Int)) okg (by omega) okd
  have okf : ShEntry.ok l[i].entry := okd.2.2.2.2.1
  refine ⟨loadEntryAt (cellsTo (deedAt24 okd (hcs2.mv m2 (by simp))).entry (by omega)) okf rfl, ?_⟩
  generalize entryT24 game (c : Int) l[i] = e1 at oke ⊢
  generalize l[i].entry = e2 at okf ⊢
  refine buildRows_C (e := T.api_Entry) (sz := ShEntry.size) (z := .agg (zerosOf Tryz.prog T.api_Entry)) (by kernel_rfl) (by kernel_rfl) (by decide) [.agg ⟨ShEntry.enc e1⟩, .agg ⟨ShEntry.enc e2⟩] rfl (fun v hv => ?_) rfl (by simp) (by show 2 * 135 ≤ 16777216; decide) q2 8 fun s3 q3 m3 o3 hn3 hc3 => ?_
  · simp only [List.mem_cons, List.mem_nil_iff, or_false] at hv
    rcases hv with rfl | rfl
    · show (ShEntry.enc _).length = 135; exact lenEntry oke
    · show (ShEntry.enc _).length = 135; exact lenEntry okf
  have o3' : OwnF T.api_Entry ShEntry q3 8 s3 [e1, e2] := ⟨by simpa [Value.cells] using o3, by
    intro z hz
    simp only [List.mem_cons, List.mem_nil_iff, or_false] at hz
    rcases hz with rfl | rfl
    · exact oke
    · exact okf, hn3⟩
  have m23 := m2.step m3 (L := []) (by simp)
  replace m := m.step m23 (by simp)
  replace bg := bg.mv m23 (by simp)
  replace mk := mk.mv m23 (by simp)
  replace xm := xm.mv m23 (by simp) (by simp)
  replace v := v.mv m23 (by simp)
  replace r := r.mv m23 (by simp)
  obtain ⟨j, hj, ej⟩ := pieces24 i (by omega)
  rw [ej]
  have hn3' : s3.n = 2 := hn3
  have hc3' : s3.c = 2 := hc3
  refine slice_to o3'.plain rfl (by omega) ?_
  have ox : OwnF T.api_Entry ShEntry q3 8 ⟨s3.a, j, s3.c⟩ ([e1, e2].take j) := o3'.take rfl (by simp; omega) (by omega) (Nat.le_refl _)
  obtain ⟨xs, hxs⟩ : ∃ xs, [e1, e2].take j = e1 :: xs ∧ (e1 :: xs).length ≤ 2 := by
    rcases hj with rfl | rfl
    · exact ⟨[], rfl, by simp⟩
    · exact ⟨[e2], rfl, by simp⟩
  rw [hxs.1] at ox
  generalize (⟨s3.a, j, s3.c⟩ : Sl) = sx at ox ⊢
  have slx : SlC q3 8 ShEntry sx (e1 :: xs) := ox.slc rfl (by omega)
  refine LentEntries_C q3 9 sx (e1 :: xs) slx (by omega) fun sl q4 m4 lent => ⟨sl, rfl, ?_⟩
  replace m := m.step m4 (by simp)
  replace bg := bg.mv m4 (by simp)
  replace mk := mk.mv m4 (by simp)
  replace xm := xm.mv m4 (by simp) (by simp)
  replace v := v.mv m4 (by simp)
  replace r := r.mv m4 (by simp)
  replace slx := slx.mv m4 (by simp)
  try dsimp only
  have h0 : 0 < (e1 :: xs).length := by simp
  have ld : ∀ (K : Addr → Prop), (∀ b o, CellsC q4 8 b o (ShEntry.enc e1) → K ⟨b, o, none⟩) → idxK sx 0 (sizeOfT Tryz.prog T.api_Entry) K := by
    intro K hK
    exact slx.idxF (i := 0) rfl szF_Entry (by decide) h0 fun b o hcs ok hel => hK b o hcs
  refine ld _ fun b3 o3 h3 => ?_
  refine ld _ fun b4 o4 h4 => ?_
  refine loadEntryAt h3 oke ?_
  refine loadEntryAt h4 oke ?_
  refine envWhy_spec (by decide) c2 v xm e1 oke fun q5 m5 xm => ⟨_, rfl, ?_⟩
  rw [(why_real [] x e1).1] at xm
  replace m := m.step m5 (by simp)
  replace bg := bg.mv m5 (by simp)
  replace mk := mk.mv m5 (by simp)
  replace v := v.mv m5 (by simp [c2])
  replace r := r.mv m5 (by simp)
  replace slx := slx.mv m5 (by simp)
  replace lent := lent.mv m5 (by simp)
  refine ⟨loadEntryAt (h4.mv m5 (by simp)) oke rfl, ?_⟩
  refine ref24Why_spec r mk e1 oke fun q6 m6 => ⟨_, rfl, ?_⟩
  replace m := m.step m6 (by simp)
  replace bg := bg.mv m6 (by simp)
  replace mk := mk.mv m6 (by simp)
  replace xm := xm.mv m6 (by simp) (by simp)
  replace v := v.mv m6 (by simp)
  replace r := r.mv m6 (by simp)
  replace slx := slx.mv m6 (by simp)
  replace lent := lent.mv m6 (by simp)
  rw [refWhy_eq x v.st e1]
  try dsimp only
  rw [if_neg (by simp)]
  refine same24_spec v r inv fun q7 m7 => ⟨_, rfl, ?_⟩
  replace m := m.step m7 (by simp)
  replace bg := bg.mv m7 (by simp)
  replace mk := mk.mv m7 (by simp)
  replace xm := xm.mv m7 (by simp) (by simp)
  replace v := v.mv m7 (by simp)
  replace r := r.mv m7 (by simp)
  replace slx := slx.mv m7 (by simp)
  replace lent := lent.mv m7 (by simp)
  try dsimp only
  rw [if_neg (by simp)]
  refine ref24Take_spec (by decide) (by decide) r mk sx (e1 :: xs) slx fun q8 m8 r => ⟨_, rfl, ?_⟩
  replace m := m.step m8 (by simp)
  replace bg := bg.mv m8 (by simp)
  replace mk := mk.mv m8 (by simp)
  replace xm := xm.mv m8 (by simp) (by simp)
  replace v := v.mv m8 (by simp [c5])
  replace slx := slx.mv m8 (by simp)
  replace lent := lent.mv m8 (by simp)
  refine envTake_spec (by decide) c2 c1 (by decide) (Ne.symm c9) v xm sl (e1 :: xs) (lent.slc rfl (by omega)) fun q9 m9 xm v => ⟨_, rfl, ?_⟩
  rw [(take_real [] _ x).1] at xm
  replace m := m.step m9 mce
  replace bg := bg.mv m9 (by simp [Ne.symm c3])
  replace mk := mk.mv m9 (by simp [Ne.symm c4])
  replace r := r.mv m9 (by simp [Ne.symm c5])
  replace slx := slx.mv m9 (by simp [Ne.symm c8])
  replace lent := lent.mv m9 (by simp [Ne.symm c9])
  try dsimp only
  rw [if_neg (by simp)]
  refine KeptEntries_C sl sx (e1 :: xs) lent slx (by omega) fun q10 m10 => ⟨_, rfl, ?_⟩
  replace m := m.step m10 (by simp)
  replace bg := bg.mv m10 (by simp)
  replace mk := mk.mv m10 (by simp)
  replace xm := xm.mv m10 (by simp) (by simp)
  replace v := v.mv m10 (by simp)
  replace r := r.mv m10 (by simp)
  try dsimp only
  rw [if_neg (by simp)]
  have inv2 := inv_take (real := true) (e1 :: xs) [] x inv
  refine same24_spec v r inv2 fun q11 m11 => ⟨_, rfl, ?_⟩
  replace m := m.step m11 (by simp)
  replace bg := bg.mv m11 (by simp)
  replace mk := mk.mv m11 (by simp)
  replace xm := xm.mv m11 (by simp) (by simp)
  replace v := v.mv m11 (by simp)
  replace r := r.mv m11 (by simp)
  try dsimp only
  rw [if_neg (by simp), wrapSucc (i := i) (by omega), wrapSucc (i := c) (by omega)]
  by_cases h0 : (takeT24 true [] x (e1 :: xs)).1 = 0
  · rw [if_pos (by simpa using h0)]
    exact hX _ _ ⟨i + 1, c + 1, ce, p, q11, _, by omega, by omega, rfl, rfl, m, bg, mk, xm, v, r, inv2, hce⟩ (by simp; omega)
  · rw [if_neg (by simpa using h0)]
    exact hX _ _ ⟨i + 1, c, ce, p, q11, _, by omega, by omega, rfl, rfl, m, bg, mk, xm, v, r, inv2, hce⟩ (by simp; omega)

theorem SealTakes_walk {h : Heap} (gm : Array Value) (z : List Int) (w1 : Lay h ShTag z gm.toList) (a : Option Addr) (la ca : Nat) (x : List DeedT24) (w2 : Lay h (.sl ShDeed24) x [.slice a la ca]) :
    HC Tryz.prog F.law24_SealTakes #[.agg gm, .slice a la ca] (fun v h' => v = .bool true ∧ Ext h h') h := by
  obtain ⟨gm⟩ := gm
  obtain ⟨rfl, ok1⟩ := LayC.enc (s := ShTag) rfl (w1.arg (Mv.refl [] ⟨h, fun _ => 0⟩) (by simp))
  rw [show (⟨ShTag.enc z⟩ : Array Value) = tagA z from by rw [encTag]]
  exact SealTakes_spec ⟨h, fun _ => 0⟩ z ok1 ⟨a, la, ca⟩ x (w2.arg (Mv.refl [] _) (by simp)) fun g' m => ⟨rfl, m.ext (by simp)⟩

end Go.Proofs.YtejjeggaofpbiaaGreat
