/-
  Envelopes: the sealed move.
-/
import Derived.Test.YtijipdaofojbiaaKMoves22
import Derived.Test.YtijipdaofojbiaaSegs
import Derived.Test.YtijipdaofojbiaaMaps
set_option linter.unusedSimpArgs false
set_option linter.unusedVariables false
namespace Go.Proofs.Ytijipdaofojbiaa
open Go Go.Ev

/-- An envelope: its game, its seal's number and tag, its state, the last move, whether one was opened. -/
abbrev ShEnv : Sh := .pair ShTag (.pair (.int .i64) (.pair ShTag (.pair (.int .i64) (.pair ShMove (.pair .bool .unit)))))
abbrev EnvT := List Int × Int × List Int × Int × MoveT × Bool × Unit
abbrev EnvT.game (x : EnvT) : List Int := x.1
abbrev EnvT.no (x : EnvT) : Int := x.2.1
abbrev EnvT.tag (x : EnvT) : List Int := x.2.2.1
abbrev EnvT.state (x : EnvT) : Int := x.2.2.2.1
abbrev EnvT.last (x : EnvT) : MoveT := x.2.2.2.2.1
abbrev EnvT.opened (x : EnvT) : Bool := x.2.2.2.2.2.1
structure EnvC (g : GH) (c p pm : Nat) (x : EnvT) : Prop where
  blk : BlkC g c p ⟨.pointer (some ⟨pm, 0, none⟩) :: ShEnv.enc x⟩ T.seal_Envelope
  ok : ShEnv.ok x
  st : 1 ≤ x.state ∧ x.state ≤ 3
theorem EnvC.mv {K : List Nat} {g g' : GH} {c p pm : Nat} {x : EnvT} (e : EnvC g c p pm x) (m : Mv K g g') (h : c ∉ K) : EnvC g' c p pm x := ⟨e.blk.mv m h, e.ok, e.st⟩
theorem EnvC.re {K : List Nat} {g q : GH} {c p pm : Nat} {x : EnvT} (e : EnvC q c p pm x) (m : Mv K g q) {φ : Nat → Nat} (h : φ c = c ∨ Fresh g c) : EnvC (g.via q φ) (φ c) p pm x := ⟨e.blk.re m h, e.ok, e.st⟩
theorem EnvC.via {K : List Nat} {g q : GH} {c p pm : Nat} {x : EnvT} (e : EnvC q c p pm x) (m : Mv K g.base q) (h : c ≠ 0) (φ : Nat → Nat) : EnvC (g.via q φ) (φ c) p pm x := ⟨e.blk.via m h φ, e.ok, e.st⟩
theorem okEnv {game tag : List Int} {no state : Int} {last : MoveT} {opened : Bool} (h1 : ShTag.ok game) (h2 : -9223372036854775808 ≤ no ∧ no ≤ 9223372036854775807) (h3 : ShTag.ok tag) (h4 : 1 ≤ state ∧ state ≤ 3) (h5 : ShMove.ok last) : ShEnv.ok (game, no, tag, state, last, opened, ()) :=
  ⟨h1, h2, h3, (show -9223372036854775808 ≤ state ∧ state ≤ 9223372036854775807 by omega), h5, trivial, trivial⟩

structure EnvAt (g : GH) (c p pm : Nat) (x : EnvT) : Prop where
  maker : CellsC g c p 0 [.pointer (some ⟨pm, 0, none⟩)]
  game : CellsC g c p 1 (ShTag.enc x.game)
  no : CellsC g c p 33 [.int .i64 x.no]
  tag : CellsC g c p 34 (ShTag.enc x.tag)
  state : CellsC g c p 66 [.int .i64 x.state]
  last : CellsC g c p 67 (ShMove.enc x.last)
  opened : CellsC g c p 70 [.bool x.opened]
theorem EnvC.parts {g : GH} {c p pm : Nat} {x : EnvT} (e : EnvC g c p pm x) : EnvAt g c p pm x := by
  have h0 : CellsC g c p 0 ([.pointer (some ⟨pm, 0, none⟩)] ++ ShEnv.enc x) := blkCells e.blk
  have h1 := cellsSnd (n := 1) h0 rfl
  have h2 := cellsSnd (n := 32) h1 (lenTag e.ok.1)
  have h3 := cellsSnd (n := 1) h2 rfl
  have h4 := cellsSnd (n := 32) h3 (lenTag e.ok.2.2.1)
  have h5 := cellsSnd (n := 1) h4 rfl
  have h6 := cellsSnd (n := 3) h5 rfl
  exact ⟨cellsFst h0, cellsTo (cellsFst h1) (by omega), cellsTo (cellsFst h2) (by omega), cellsTo (cellsFst h3) (by omega), cellsTo (cellsFst h4) (by omega), cellsTo (cellsFst h5) (by omega), cellsTo (cellsFst h6) (by omega)⟩

/-! ### Parts written -/
theorem envForm (pv : Value) (x : EnvT) : (pv :: ShEnv.enc x) = pv :: (ShTag.enc x.game ++ (.int .i64 x.no :: (ShTag.enc x.tag ++ (.int .i64 x.state :: (ShMove.enc x.last ++ [.bool x.opened]))))) := by simp [Sh.enc]
theorem envSetNo (pv : Value) (x : EnvT) (ok : ShEnv.ok x) (n : Int) : (⟨pv :: ShEnv.enc x⟩ : Array Value).setIfInBounds 33 (.int .i64 n) = ⟨pv :: ShEnv.enc (x.game, n, x.tag, x.state, x.last, x.opened, ())⟩ := by
  rw [envForm, envForm]
  exact set_at (pre := pv :: ShTag.enc x.game) (by simp [lenTag ok.1])
theorem envSetTag (pv : Value) (x : EnvT) (ok : ShEnv.ok x) (t : List Int) (ht : ShTag.ok t) : overA ⟨pv :: ShEnv.enc x⟩ 34 (ShTag.enc t) = ⟨pv :: ShEnv.enc (x.game, x.no, t, x.state, x.last, x.opened, ())⟩ := by
  rw [envForm, envForm]
  have := over_at (pre := pv :: (ShTag.enc x.game ++ [.int .i64 x.no])) (mid := ShTag.enc x.tag) (post := .int .i64 x.state :: (ShMove.enc x.last ++ [.bool x.opened])) (new := ShTag.enc t) (n := 34) (by simp [lenTag ok.1]) (by rw [lenTag ht, lenTag ok.2.2.1])
  simpa using this
theorem envSetState (pv : Value) (x : EnvT) (ok : ShEnv.ok x) (n : Int) : (⟨pv :: ShEnv.enc x⟩ : Array Value).setIfInBounds 66 (.int .i64 n) = ⟨pv :: ShEnv.enc (x.game, x.no, x.tag, n, x.last, x.opened, ())⟩ := by
  rw [envForm, envForm]
  have := set_at (pre := pv :: (ShTag.enc x.game ++ (.int .i64 x.no :: ShTag.enc x.tag))) (post := ShMove.enc x.last ++ [.bool x.opened]) (v := .int .i64 x.state) (w := .int .i64 n) (n := 66) (by simp [lenTag ok.1, lenTag ok.2.2.1])
  simpa using this
theorem envSetLast (pv : Value) (x : EnvT) (ok : ShEnv.ok x) (mv : MoveT) : overA ⟨pv :: ShEnv.enc x⟩ 67 (ShMove.enc mv) = ⟨pv :: ShEnv.enc (x.game, x.no, x.tag, x.state, mv, x.opened, ())⟩ := by
  rw [envForm, envForm]
  have := over_at (pre := pv :: (ShTag.enc x.game ++ (.int .i64 x.no :: (ShTag.enc x.tag ++ [.int .i64 x.state])))) (mid := ShMove.enc x.last) (post := [.bool x.opened]) (new := ShMove.enc mv) (n := 67) (by simp [lenTag ok.1, lenTag ok.2.2.1]) (by rw [lenMove, lenMove])
  simpa using this
theorem envSetOpened (pv : Value) (x : EnvT) (ok : ShEnv.ok x) (b : Bool) : (⟨pv :: ShEnv.enc x⟩ : Array Value).setIfInBounds 70 (.bool b) = ⟨pv :: ShEnv.enc (x.game, x.no, x.tag, x.state, x.last, b, ())⟩ := by
  rw [envForm, envForm]
  have := set_at (pre := pv :: (ShTag.enc x.game ++ (.int .i64 x.no :: (ShTag.enc x.tag ++ (.int .i64 x.state :: ShMove.enc x.last))))) (post := []) (v := .bool x.opened) (w := .bool b) (n := 70) (by simp [lenTag ok.1, lenTag ok.2.2.1, lenMove])
  simpa using this
theorem envLen (pv : Value) {x : EnvT} (ok : ShEnv.ok x) : (⟨pv :: ShEnv.enc x⟩ : Array Value).size = 71 := by simp [Sh.enc_length (s := ShEnv) rfl ok]; rfl

/-! ### What is told -/
section
variable {g : GH} {c p pm : Nat} {x : EnvT}
theorem envMade_spec (e : EnvC g c p pm x) {R : Value → Heap → Prop} (H : R (.bool true) g.h) : HC Try.prog F.seal_Envelope_made #[.pointer (some ⟨p, 0, none⟩)] R g.h := by
  refine seal_Envelope_made.calls ?_
  unfold seal_Envelope_made.body
  rw [if_pos (by rfl), derefK_some, fldK_some]
  refine loadK_cells e.parts.state x.state (j := 0) rfl rfl ?_
  have := e.st
  rw [show (x.state != 0) = true from by simp; omega]
  exact H
theorem envState_spec (e : EnvC g c p pm x) {R : Value → Heap → Prop} (H : R (.int .i64 x.state) g.h) : HC Try.prog F.seal_Envelope_State #[.pointer (some ⟨p, 0, none⟩)] R g.h := by
  refine seal_Envelope_State.calls ?_
  unfold seal_Envelope_State.body
  refine envMade_spec e ⟨_, rfl, ?_⟩
  try dsimp only
  rw [if_neg (by simp), derefK_some, fldK_some]
  exact loadK_cells e.parts.state x.state (j := 0) rfl rfl H
theorem dMove (p : Option Addr) : doesLoad Try.prog T.api_Move (.pointer p) = .quietP fun h K => loadAggK (sizeOfT Try.prog T.api_Move) h p fun cs => K (.agg cs) := by kernel_rfl
theorem zMove : zerosOf Try.prog T.api_Move = ⟨ShMove.enc move0⟩ := by kernel_rfl
theorem oneMove (x : MoveT) : ∀ v ∈ (⟨ShMove.enc x⟩ : Array Value).toList, v.oneCell' = true := by
  intro v hv
  simp only [Sh.enc, List.mem_cons, List.mem_append, List.mem_nil_iff, or_false] at hv
  rcases hv with rfl | rfl | rfl <;> rfl
theorem envOpened_spec (e : EnvC g c p pm x) {R : Value → Heap → Prop} (H : ∀ g' : GH, Mv [] g g' → R (.tuple #[.agg ⟨ShMove.enc x.last⟩, .bool x.opened]) g'.h) : HC Try.prog F.seal_Envelope_Opened #[.pointer (some ⟨p, 0, none⟩)] R g.h := by
  refine seal_Envelope_Opened.calls ?_
  unfold seal_Envelope_Opened.body
  obtain ⟨y, hy, hyn⟩ := fresh_exists g [c]
  simp only [List.mem_cons, List.mem_nil_iff, or_false] at hyn
  have m := Mv.refl [y] g
  have re : ∀ k ∈ [y], k ∈ ([] : List Nat) ∨ Fresh g k := fun k hk => .inr (by simp only [List.mem_singleton] at hk; rw [hk]; exact hy)
  rw [zMove]
  refine new_C g y fun t q1 m1 bt => ?_
  replace m := m.step m1 (by simp)
  have e1 := e.mv m1 (by simp)
  refine envMade_spec e1 ⟨_, rfl, ?_⟩
  try dsimp only
  rw [if_neg (by simp)]
  simp only [derefK_some, fldK_some]
  refine loadMoveAt (cellsTo e1.parts.last (by omega)) ?_
  refine loadK_cells e1.parts.opened x.opened (j := 0) rfl rfl ?_
  refine storeAgg_C bt (by rw [szMove]; rfl) (by rw [szMove]; simp [Sh.enc]) (oneMove _) fun q2 m2 b2 => ?_
  replace m := m.step m2 (by simp)
  have e2 := e1.mv m2 (by simp [Ne.symm hyn])
  have b2' : BlkC q2 y t ⟨ShMove.enc x.last⟩ T.api_Move := by
    rw [overA_all (by simp [Sh.enc])] at b2
    exact b2
  refine ⟨stillK_cells e2.parts.opened (j := 0) rfl rfl, ?_⟩
  refine loadAt_agg (dMove _) ?_
  refine loadMoveAt (blkCells b2') ?_
  exact H (g.via q2 id) (m.re id re)
end

/-! ### What is done -/
theorem bldWax (m : Option Addr) (t : List Int) (ht : ShTag.ok t) (w : World) : (Instr.build T.seal_wax #[(0, .pointer m), (1, .agg (tagA t))]).run Try.prog w = .ok (.agg ⟨.pointer m :: (ShTag.enc t ++ (.int .i64 0 :: ShTag.enc zero32))⟩) w := by
  have te : tagA t = ⟨ShTag.enc t⟩ := by rw [encTag]
  rw [te]
  have h := build_segs (P := Try.prog) (t := T.seal_wax) (fs := structFs Try.prog T.seal_wax) (parts := #[(0, .pointer m), (1, .agg ⟨ShTag.enc t⟩)]) [[.pointer none], ShTag.enc zero32, [.int .i64 0], ShTag.enc zero32] (by kernel_rfl) (fun w => by kernel_rfl) (fun w => by kernel_rfl) (fun p hp => by
    simp only [List.mem_cons, List.mem_nil_iff, or_false] at hp
    rcases hp with rfl | rfl
    · exact ⟨_, rfl, rfl⟩
    · exact ⟨_, rfl, by show (ShTag.enc t).length = _; rw [lenTag ht, lenTag ok0]⟩) w
  rw [h]
  simp [Value.cells]
theorem bldEnv (m : Option Addr) (t : List Int) (ht : ShTag.ok t) (w : World) : (Instr.build T.seal_Envelope #[(0, .agg ⟨.pointer m :: (ShTag.enc t ++ (.int .i64 0 :: ShTag.enc zero32))⟩), (1, .int .i64 1)]).run Try.prog w = .ok (.agg ⟨.pointer m :: ShEnv.enc (t, 0, zero32, 1, move0, false, ())⟩) w := by
  have h := build_segs (P := Try.prog) (t := T.seal_Envelope) (fs := structFs Try.prog T.seal_Envelope) (parts := #[(0, .agg ⟨.pointer m :: (ShTag.enc t ++ (.int .i64 0 :: ShTag.enc zero32))⟩), (1, .int .i64 1)]) [.pointer none :: (ShTag.enc zero32 ++ (.int .i64 0 :: ShTag.enc zero32)), [.int .i64 0], ShMove.enc move0, [.bool false]] (by kernel_rfl) (fun w => by kernel_rfl) (fun w => by kernel_rfl) (fun p hp => by
    simp only [List.mem_cons, List.mem_nil_iff, or_false] at hp
    rcases hp with rfl | rfl
    · exact ⟨_, rfl, by show (Value.pointer m :: (ShTag.enc t ++ (.int .i64 0 :: ShTag.enc zero32))).length = _; simp [lenTag ht, lenTag ok0]⟩
    · exact ⟨_, rfl, rfl⟩) w
  rw [h, envForm]
  simp [Value.cells, Sh.enc]
theorem envNew_spec {g : GH} {c k pm : Nat} {real : Bool} {seed : List Int} {asked : List ShThing.T} (xm : MakC g c k pm real seed asked) (game : List Int) (okg : ShTag.ok game) (d : Nat) {R : Value → Heap → Prop}
    (H : ∀ (p : Nat) (g' : GH), Mv [] g g' → EnvC g' d p pm (game, 0, zero32, 1, move0, false, ()) → R (.tuple #[.pointer (some ⟨p, 0, none⟩), .int .i64 0]) g'.h) :
    HC Try.prog F.seal_New #[.pointer (some ⟨pm, 0, none⟩), .agg (tagA game)] R g.h := by
  refine seal_New.calls ?_
  unfold seal_New.body
  have hgb := okTagB okg
  obtain ⟨y, hy, hyn⟩ := fresh_exists g [c, k]
  simp only [List.mem_cons, List.mem_nil_iff, or_false, not_or] at hyn
  refine new_C g 0 fun t q1 m1 bt => ?_
  refine makCopy_spec (xm.mv m1 (by simp) (by simp)) 0 0 fun p' q2 m2 _ => ⟨some ⟨p', 0, none⟩, rfl, ?_⟩
  try dsimp only
  rw [if_neg (by simp)]
  refine loadAgg_whole (bt.mv m2 (by simp)) (tagA_size hgb.1) ?_
  refine ⟨_, bldWax _ game okg, ?_⟩
  refine ⟨_, bldEnv _ game okg, ?_⟩
  have ok : ShEnv.ok (game, 0, zero32, 1, move0, false, ()) := okEnv okg (by decide) ok0 (by decide) okMove0
  refine new_C q2 d fun p q3 m3 b3 => ?_
  exact H p q3 ((m1.step m2 (L := []) (by simp)).step m3 (by simp)) ⟨b3, ok, (show (1 : Int) ≤ 1 ∧ (1 : Int) ≤ 3 by decide)⟩

theorem envPut_spec {g : GH} {c p pm : Nat} {x : EnvT} (e : EnvC g c p pm x) (n : Int) (hn : -9223372036854775808 ≤ n ∧ n ≤ 9223372036854775807) (t : List Int) (okt : ShTag.ok t) {R : Value → Heap → Prop}
    (H : ∀ g' : GH, Mv [c] g g' → EnvC g' c p pm (x.game, n, t, x.state, x.last, x.opened, ()) → R (.tuple #[]) g'.h) : HC Try.prog F.seal_wax_put #[.pointer (some ⟨p, 0, none⟩), .int .i64 n, .agg (tagA t)] R g.h := by
  refine seal_wax_put.calls ?_
  unfold seal_wax_put.body
  have htb := okTagB okt
  obtain ⟨y, hy, hyn⟩ := fresh_exists g [c]
  simp only [List.mem_cons, List.mem_nil_iff, or_false] at hyn
  have m := Mv.refl [c, y] g
  refine new_C g y fun pt q1 m1 bt => ?_
  replace m := m.step m1 (by simp)
  have e1 := e.mv m1 (by simp)
  simp only [derefK_some, fldK_some]
  refine loadAgg_whole bt (tagA_size htb.1) ?_
  refine store_C e1.blk (by rw [envLen _ e.ok]; decide) rfl fun q2 m2 b2 => ?_
  rw [envSetNo _ _ e.ok] at b2
  replace m := m.step m2 (by simp)
  refine ⟨stillAgg_whole (bt.mv m2 (by simp [hyn])) (tagA_size htb.1), ?_⟩
  have ok2 : ShEnv.ok (x.game, n, x.tag, x.state, x.last, x.opened, ()) := okEnv e.ok.1 hn e.ok.2.2.1 e.st e.ok.2.2.2.2.1
  refine storeAgg_C b2 (by rw [szTag]; simp [htb.1]) (by rw [envLen _ ok2, szTag]; decide) (fun v hv => oneBy _ v hv) fun q3 m3 b3 => ?_
  replace m := m.step m3 (by simp)
  have tl : (tagA t).toList = ShTag.enc t := by rw [encTag]
  rw [tl] at b3
  have b3' := (envSetTag (.pointer (some ⟨pm, 0, none⟩)) _ ok2 t okt) ▸ b3
  have ok3 : ShEnv.ok (x.game, n, t, x.state, x.last, x.opened, ()) := okEnv e.ok.1 hn okt e.st e.ok.2.2.2.2.1
  exact H (g.via q3 id) (m.re id fun k hk => by
    simp only [List.mem_cons, List.mem_nil_iff, or_false] at hk
    rcases hk with rfl | rfl
    · exact .inl (by simp)
    · exact .inr hy) (EnvC.re (φ := id) ⟨b3', ok3, e.st⟩ m (.inl rfl))

def does24 (x : EnvT) (e : EntryT) : EnvT :=
  if e.what.say = 5 then (x.game, e.number, e.what.sealed, 2, x.last, x.opened, ())
  else if e.what.say = 6 then (x.game, x.no, x.tag, 3, x.last, x.opened, ())
  else if e.what.say = 7 then (x.game, 0, zero32, 1, e.what.move, true, ())
  else x
theorem envSealed_spec {g : GH} {c p pm : Nat} {x : EnvT} (v : EnvC g c p pm x) (e : EntryT) (ok : ShEntry.ok e) {R : Value → Heap → Prop} (H : ∀ g' : GH, Mv [c] g g' → EnvC g' c p pm (x.game, e.number, e.what.sealed, 2, x.last, x.opened, ()) → R (.tuple #[]) g'.h) :
    HC Try.prog F.seal_Envelope_sealed #[.pointer (some ⟨p, 0, none⟩), .agg ⟨ShEntry.enc e⟩] R g.h := by
  refine seal_Envelope_sealed.calls ?_
  unfold seal_Envelope_sealed.body
  obtain ⟨y, hy, hyn⟩ := fresh_exists g [c]
  simp only [List.mem_cons, List.mem_nil_iff, or_false] at hyn
  have m := Mv.refl [c, y] g
  refine new_C g y fun pe q1 m1 be => ?_
  replace m := m.step m1 (by simp)
  have v1 := v.mv m1 (by simp)
  simp only [derefK_some, fldK_some]
  refine store_C v1.blk (by rw [envLen _ v.ok]; decide) rfl fun q2 m2 b2 => ?_
  rw [envSetState _ _ v.ok] at b2
  replace m := m.step m2 (by simp)
  have E := entryAt ok (blkCells (be.mv m2 (by simp [hyn])))
  have B := bodyAt ok.2.2.2.1 E.what
  refine loadK_cells E.number e.number (j := 0) rfl rfl ?_
  refine loadTagAt (cellsTo B.sealed (by omega)) ok.2.2.2.1.2.2.2.2.1 ?_
  have te : (⟨ShTag.enc e.what.sealed⟩ : Array Value) = tagA e.what.sealed := by rw [encTag]
  rw [te]
  have ok2 : ShEnv.ok (x.game, x.no, x.tag, 2, x.last, x.opened, ()) := okEnv v.ok.1 v.ok.2.1 v.ok.2.2.1 (by decide) v.ok.2.2.2.2.1
  refine envPut_spec (⟨b2, ok2, (show (1 : Int) ≤ 2 ∧ (2 : Int) ≤ 3 by decide)⟩ : EnvC q2 c p pm (x.game, x.no, x.tag, 2, x.last, x.opened, ())) e.number ok.2.1 e.what.sealed ok.2.2.2.1.2.2.2.2.1 fun q3 m3 v3 => ⟨(), rfl, ?_⟩
  replace m := m.step m3 (by simp)
  exact H (g.via q3 id) (m.re id fun k hk => by
    simp only [List.mem_cons, List.mem_nil_iff, or_false] at hk
    rcases hk with rfl | rfl
    · exact .inl (by simp)
    · exact .inr hy) (v3.re (φ := id) m (.inl rfl))
theorem envResumed_spec {g : GH} {c p pm : Nat} {x : EnvT} (v : EnvC g c p pm x) (a : Array Value) {R : Value → Heap → Prop} (H : ∀ g' : GH, Mv [c] g g' → EnvC g' c p pm (x.game, x.no, x.tag, 3, x.last, x.opened, ()) → R (.tuple #[]) g'.h) :
    HC Try.prog F.seal_Envelope_resumed #[.pointer (some ⟨p, 0, none⟩), .agg a] R g.h := by
  refine seal_Envelope_resumed.calls ?_
  unfold seal_Envelope_resumed.body
  refine new_C g (c + 1) fun pe q1 m1 be => ?_
  have v1 := v.mv m1 (by simp)
  simp only [derefK_some, fldK_some]
  refine store_C v1.blk (by rw [envLen _ v.ok]; decide) rfl fun q2 m2 b2 => ?_
  rw [envSetState _ _ v.ok] at b2
  have ok2 : ShEnv.ok (x.game, x.no, x.tag, 3, x.last, x.opened, ()) := okEnv v.ok.1 v.ok.2.1 v.ok.2.2.1 (by decide) v.ok.2.2.2.2.1
  exact H q2 (m1.then m2 (by simp)) ⟨b2, ok2, (show (1 : Int) ≤ 3 ∧ (3 : Int) ≤ 3 by decide)⟩
theorem envPlain_spec {g : GH} (v : Option Addr) (a : Array Value) {R : Value → Heap → Prop} (H : ∀ g' : GH, Mv [] g g' → R (.tuple #[]) g'.h) : HC Try.prog F.seal_Envelope_plain #[.pointer v, .agg a] R g.h := by
  refine seal_Envelope_plain.calls ?_
  unfold seal_Envelope_plain.body
  exact new_C g 0 fun pe q1 m1 be => H q1 m1
theorem envOpens_spec {g : GH} {c p pm : Nat} {x : EnvT} (v : EnvC g c p pm x) (e : EntryT) (ok : ShEntry.ok e) {R : Value → Heap → Prop} (H : ∀ g' : GH, Mv [c] g g' → EnvC g' c p pm (x.game, 0, zero32, 1, e.what.move, true, ()) → R (.tuple #[]) g'.h) :
    HC Try.prog F.seal_Envelope_opens #[.pointer (some ⟨p, 0, none⟩), .agg ⟨ShEntry.enc e⟩] R g.h := by
  refine seal_Envelope_opens.calls ?_
  unfold seal_Envelope_opens.body
  obtain ⟨y, hy, hyn⟩ := fresh_exists g [c]
  simp only [List.mem_cons, List.mem_nil_iff, or_false] at hyn
  have m := Mv.refl [c, y] g
  refine new_C g y fun pe q1 m1 be => ?_
  replace m := m.step m1 (by simp)
  have v1 := v.mv m1 (by simp)
  simp only [derefK_some, fldK_some]
  have E := entryAt ok (blkCells be)
  have B := bodyAt ok.2.2.2.1 E.what
  have okm := ok.2.2.2.1.2.1
  refine loadMoveAt (cellsTo B.move (by omega)) ?_
  refine store_C v1.blk (by rw [envLen _ v.ok]; decide) rfl fun q2 m2 b2 => ?_
  rw [envSetState _ _ v.ok] at b2
  replace m := m.step m2 (by simp)
  have E2 := entryAt ok (blkCells (be.mv m2 (by simp [hyn])))
  have B2 := bodyAt ok.2.2.2.1 E2.what
  refine ⟨loadMoveAt (cellsTo B2.move (by omega)) rfl, ?_⟩
  have ok2 : ShEnv.ok (x.game, x.no, x.tag, 1, x.last, x.opened, ()) := okEnv v.ok.1 v.ok.2.1 v.ok.2.2.1 (by decide) v.ok.2.2.2.2.1
  refine storeAgg_C b2 (by rw [szMove]; rfl) (by rw [envLen _ ok2, szMove]; decide) (oneMove _) fun q3 m3 b3 => ?_
  replace m := m.step m3 (by simp)
  have b3' := (envSetLast (.pointer (some ⟨pm, 0, none⟩)) _ ok2 e.what.move) ▸ b3
  have ok3 : ShEnv.ok (x.game, x.no, x.tag, 1, e.what.move, x.opened, ()) := okEnv v.ok.1 v.ok.2.1 v.ok.2.2.1 (by decide) okm
  refine store_C b3' (by rw [envLen _ ok3]; decide) rfl fun q4 m4 b4 => ?_
  rw [envSetOpened _ _ ok3] at b4
  replace m := m.step m4 (by simp)
  have ok4 : ShEnv.ok (x.game, x.no, x.tag, 1, e.what.move, true, ()) := okEnv v.ok.1 v.ok.2.1 v.ok.2.2.1 (by decide) okm
  refine ⟨tagA zero32, fun w => by kernel_rfl, ?_⟩
  refine envPut_spec (⟨b4, ok4, (show (1 : Int) ≤ 1 ∧ (1 : Int) ≤ 3 by decide)⟩ : EnvC q4 c p pm (x.game, x.no, x.tag, 1, e.what.move, true, ())) 0 (by decide) zero32 ok0 fun q5 m5 v5 => ⟨(), rfl, ?_⟩
  replace m := m.step m5 (by simp)
  exact H (g.via q5 id) (m.re id fun k hk => by
    simp only [List.mem_cons, List.mem_nil_iff, or_false] at hk
    rcases hk with rfl | rfl
    · exact .inl (by simp)
    · exact .inr hy) (v5.re (φ := id) m (.inl rfl))

end Go.Proofs.Ytijipdaofojbiaa

/-
  Envelopes: why, take, make.
-/
set_option linter.unusedSimpArgs false
set_option linter.unusedVariables false
namespace Go.Proofs.Ytijipdaofojbiaa
open Go Go.Ev

/-- What an entry does: in which state, how far behind. -/
def deedT (n : Int) : Int × Int := if n = 5 then (1, 0) else if n = 6 then (2, 1) else if n = 7 then (3, 2) else if n = 1 ∨ n = 2 ∨ n = 3 then (1, 0) else (0, 0)
def deedF (n : Int) : Value := if n = 5 then .func (.func F.seal_Envelope_sealed) #[] #[] else if n = 6 then .func (.func F.seal_Envelope_resumed) #[] #[] else if n = 7 then .func (.func F.seal_Envelope_opens) #[] #[] else if n = 1 ∨ n = 2 ∨ n = 3 ∨ n = 4 then .func (.func F.seal_Envelope_plain) #[] #[] else .nilFunc
def deedA (n : Int) : Array Value := #[.int .i64 (deedT n).1, .int .i64 (deedT n).2, deedF n]
abbrev deedsL : List MapEntry := [⟨.int .i64 5, .agg (deedA 5), 0⟩, ⟨.int .i64 6, .agg (deedA 6), 1⟩, ⟨.int .i64 7, .agg (deedA 7), 2⟩, ⟨.int .i64 4, .agg (deedA 4), 3⟩, ⟨.int .i64 1, .agg (deedA 1), 4⟩, ⟨.int .i64 2, .agg (deedA 2), 5⟩, ⟨.int .i64 3, .agg (deedA 3), 6⟩]
abbrev mapT24 : TypeId := T.map_aapi_Say_seal_deed
theorem uMap24 : Try.prog.underlying mapT24 = some (.map T.api_Say T.seal_deed) := by kernel_rfl
theorem uSay24 : Try.prog.underlying T.api_Say = some (.int .i64) := by kernel_rfl
theorem ckSay24 (n : Int) (b : Bool) (w : World) : (Instr.checkKey b 10000 T.api_Say (.int .i64 n)).run Try.prog w = .ok () w := by kernel_rfl
theorem bldDeed (a b : Int) (f : FuncId) (w : World) : (Instr.build T.seal_deed #[(0, .int .i64 a), (1, .int .i64 b), (2, .func (.func f) #[] #[])]).run Try.prog w = .ok (.agg #[.int .i64 a, .int .i64 b, .func (.func f) #[] #[]]) w := by kernel_rfl
theorem zDeed : zerosOf Try.prog T.seal_deed = deedA 0 := by kernel_rfl
theorem szDeed : sizeOfT Try.prog T.seal_deed = 3 := by kernel_rfl
theorem deed_one (n : Int) : ∀ v ∈ (deedA n).toList, v.oneCell' = true := by
  intro v hv
  simp only [deedA, List.mem_cons, List.mem_nil_iff, or_false] at hv
  rcases hv with rfl | rfl | rfl
  · rfl
  · rfl
  · unfold deedF; split; rfl; split; rfl; split; rfl; split <;> rfl
theorem deeds_spec (g : GH) (c : Nat) {R : Value → Heap → Prop} (H : ∀ (r : Nat) (g' : GH), Mv [] g g' → MapC g' c r deedsL 7 → R (.map (some r)) g'.h) : HC Try.prog F.seal_deeds #[] R g.h := by
  refine seal_deeds.calls ?_
  unfold seal_deeds.body
  have m : Mv [1, 2] g.base g.base := Mv.refl _ _
  refine ⟨_, bldDeed 1 0 _, ?_⟩
  refine newStore_C g.base 2 (by rw [szDeed]; rfl) (by rw [szDeed]; kernel_rfl) (fun v hv => deed_one 1 v hv) fun pd q0 m0 bd => ?_
  replace m := m.step m0 (by simp)
  refine makeMap_C q0 1 fun r q0 m0 x => ?_
  replace m := m.step m0 (by simp)
  replace bd := bd.mv m0 (by simp)
  refine ⟨_, bldDeed 1 0 _, ?_⟩
  refine mapNew_C x uMap24 (ckSay24 5 false) (findKey_now uSay24 rfl) fun q1 m1 x => ?_
  replace m := m.step m1 (by simp)
  replace bd := bd.mv m1 (by simp)
  refine ⟨_, bldDeed 2 1 _, ?_⟩
  refine mapNew_C x uMap24 (ckSay24 6 false) (findKey_now uSay24 rfl) fun q1 m1 x => ?_
  replace m := m.step m1 (by simp)
  replace bd := bd.mv m1 (by simp)
  refine ⟨_, bldDeed 3 2 _, ?_⟩
  refine mapNew_C x uMap24 (ckSay24 7 false) (findKey_now uSay24 rfl) fun q1 m1 x => ?_
  replace m := m.step m1 (by simp)
  replace bd := bd.mv m1 (by simp)
  refine ⟨_, bldDeed 0 0 _, ?_⟩
  refine mapNew_C x uMap24 (ckSay24 4 false) (findKey_now uSay24 rfl) fun q1 m1 x => ?_
  replace m := m.step m1 (by simp)
  replace bd := bd.mv m1 (by simp)
  refine loadAgg_whole bd (by rw [szDeed]; rfl) ?_
  refine mapNew_C x uMap24 (ckSay24 1 false) (findKey_now uSay24 rfl) fun q1 m1 x => ?_
  replace m := m.step m1 (by simp)
  replace bd := bd.mv m1 (by simp)
  refine loadAgg_whole bd (by rw [szDeed]; rfl) ?_
  refine mapNew_C x uMap24 (ckSay24 2 false) (findKey_now uSay24 rfl) fun q1 m1 x => ?_
  replace m := m.step m1 (by simp)
  replace bd := bd.mv m1 (by simp)
  refine loadAgg_whole bd (by rw [szDeed]; rfl) ?_
  refine mapNew_C x uMap24 (ckSay24 3 false) (findKey_now uSay24 rfl) fun q1 m1 x => ?_
  replace m := m.step m1 (by simp)
  exact H r (g.via q1 fun _ => c) (m.via (by simp) _) (x.via m (by simp) _)
theorem lookupNone_C {P : Program} {t kt e : TypeId} {k : Kd} {g : GH} {c r : Nat} {es : List MapEntry} {n : Nat} {key : Value} (y : MapC g c r es n) (hu : P.underlying t = some (.map kt e)) (hck : ∀ (b : Bool) (w : World), (Instr.checkKey b 10000 kt key).run P w = .ok () w)
    (x : k.T) (hf : ∀ w : World, (Instr.findKey kt key es).run P w = .ok none w) (hz : ∀ w : World, (zeroValue e).run P w = .ok (k.inj x) w) {K : k.T → Prop} (H : K x) : quietK P k (Instr.lookup t (.map (some r)) key false) K g.h := by
  refine ⟨x, fun w hw => ?_, H⟩
  have hget : w.heap[r]? = some (.map ⟨es⟩ n) := by rw [hw]; exact y.at_
  unfold Instr.lookup
  simp only [Sem.run_bind, Sem.run_pure, run_underlying hu, Result.andThen_ok, run_getObj hget, hck, hf, hz, Bool.false_eq_true, if_false]
theorem deedLook {g : GH} {c r : Nat} (y : MapC g c r deedsL 7) (n : Int) {K : Array Value → Prop} (H : K (deedA n)) : quietK Try.prog .agg (Instr.lookup mapT24 (.map (some r)) (.int .i64 n) false) K g.h := by
  by_cases h5 : n = 5
  · subst h5; exact lookup_C (k := .agg) (i := 0) y uMap24 (ckSay24 5) (deedA 5) (findKey_now uSay24 rfl) H
  by_cases h6 : n = 6
  · subst h6; exact lookup_C (k := .agg) (i := 1) y uMap24 (ckSay24 6) (deedA 6) (findKey_now uSay24 rfl) H
  by_cases h7 : n = 7
  · subst h7; exact lookup_C (k := .agg) (i := 2) y uMap24 (ckSay24 7) (deedA 7) (findKey_now uSay24 rfl) H
  by_cases h4 : n = 4
  · subst h4; exact lookup_C (k := .agg) (i := 3) y uMap24 (ckSay24 4) (deedA 4) (findKey_now uSay24 rfl) H
  by_cases h1 : n = 1
  · subst h1; exact lookup_C (k := .agg) (i := 4) y uMap24 (ckSay24 1) (deedA 1) (findKey_now uSay24 rfl) H
  by_cases h2 : n = 2
  · subst h2; exact lookup_C (k := .agg) (i := 5) y uMap24 (ckSay24 2) (deedA 2) (findKey_now uSay24 rfl) H
  by_cases h3 : n = 3
  · subst h3; exact lookup_C (k := .agg) (i := 6) y uMap24 (ckSay24 3) (deedA 3) (findKey_now uSay24 rfl) H
  have hn : Instr.findNow (.int .i64) (.int .i64 n) deedsL 0 = some none := by
    have b : ∀ k : Int, ¬ n = k → (n == k) = false := fun k hk => by simpa using hk
    simp only [Instr.findNow, Instr.sameNow, b 1 h1, b 2 h2, b 3 h3, b 4 h4, b 5 h5, b 6 h6, b 7 h7, if_true]
  have e : deedA n = deedA 0 := by
    unfold deedA deedT deedF
    simp [h1, h2, h3, h4, h5, h6, h7]
  rw [e] at H
  exact lookupNone_C (k := .agg) y uMap24 (ckSay24 n) (deedA 0) (findKey_now uSay24 hn) (fun w => by kernel_rfl) H

/-! ### Why -/
def whyT24 (real : Bool) (A : List ShThing.T) (x : EnvT) (e : EntryT) : Int × List ShThing.T :=
  if ¬ entryOk e = true then (2, A) else if ¬ e.game = x.game then (14, A)
  else if ¬ (deedT e.what.say).1 = 0 ∧ ¬ (deedT e.what.say).1 = x.state then (18, A)
  else if (deedT e.what.say).2 > 0 ∧ ¬ e.number = IntKind.i64.wrap (x.no + (deedT e.what.say).2) then (11, A)
  else if (deedT e.what.say).1 = 3 then (if fitsT x.tag (moveT22 real A x.game x.no e.what.move e.what.nonce).1 (moveT22 real A x.game x.no e.what.move e.what.nonce).2.1 = 0 then 0 else 16, (moveT22 real A x.game x.no e.what.move e.what.nonce).2.2)
  else (0, A)

theorem fits24_spec {g : GH} {c k ce p pm : Nat} (hck : ¬ c = k) (hce : ¬ ce = k) {x : EnvT} (v : EnvC g ce p pm x) {real : Bool} {seed : List Int} {A : List ShThing.T} (xm : MakC g c k pm real seed A) (b : BodyT) (ok : ShBody.ok b) {R : Value → Heap → Prop}
    (H : ∀ g' : GH, Mv [k] g g' → MakC g' c k pm real seed (moveT22 real A x.game x.no b.move b.nonce).2.2 → R (.bool (decide (fitsT x.tag (moveT22 real A x.game x.no b.move b.nonce).1 (moveT22 real A x.game x.no b.move b.nonce).2.1 = 0))) g'.h) :
    HC Try.prog F.seal_wax_fits #[.pointer (some ⟨p, 0, none⟩), .agg ⟨ShBody.enc b⟩] R g.h := by
  refine seal_wax_fits.calls ?_
  unfold seal_wax_fits.body
  obtain ⟨y, hy, hyn⟩ := fresh_exists g [c, k, ce]
  simp only [List.mem_cons, List.mem_nil_iff, or_false, not_or] at hyn
  have m := Mv.refl [k, y] g
  refine new_C g y fun pb q1 m1 bb => ?_
  replace m := m.step m1 (by simp)
  have v1 := (v.mv m1 (by simp)).parts
  have B := bodyAt ok (blkCells bb)
  simp only [derefK_some, fldK_some]
  have te : ∀ u : List Int, (⟨ShTag.enc u⟩ : Array Value) = tagA u := fun u => by rw [encTag]
  refine loadK_cells v1.maker (some ⟨pm, 0, none⟩ : Option Addr) (j := 0) (k := .ptr) rfl rfl ?_
  refine loadTagAt (cellsTo v1.tag (by omega)) v.ok.2.2.1 ?_
  refine loadTagAt (cellsTo v1.game (by omega)) v.ok.1 ?_
  refine loadK_cells v1.no x.no (j := 0) (k := .int .i64) rfl rfl ?_
  refine loadMoveAt (cellsTo B.move (by omega)) ?_
  refine loadTagAt (cellsTo B.nonce (by omega)) ok.2.2.2.2.2.1 ?_
  rw [te, te, te]
  refine openMove_spec hck (xm.mv m1 (by simp) (by simp)) x.tag v.ok.2.2.1 x.game v.ok.1 x.no b.move ok.2.1 b.nonce ok.2.2.2.2.2.1 fun q2 m2 xm2 => ⟨_, rfl, ?_⟩
  replace m := m.step m2 (by simp)
  try dsimp only
  have := H (g.via q2 id) (m.re id fun j hj => by
    simp only [List.mem_cons, List.mem_nil_iff, or_false] at hj
    rcases hj with rfl | rfl
    · exact .inl (by simp)
    · exact .inr hy) (xm2.re (φ := id) m (.inl rfl) (.inl rfl))
  have eb : ∀ n : Int, (n == 0) = decide (n = 0) := fun n => rfl
  rw [eb]
  exact this

set_option maxHeartbeats 1000000 in
theorem envWhy_spec {g : GH} {c k ce p pm : Nat} (hck : ¬ c = k) (hce : ¬ ce = k) {x : EnvT} (v : EnvC g ce p pm x) {real : Bool} {seed : List Int} {A : List ShThing.T} (xm : MakC g c k pm real seed A) (e : EntryT) (ok : ShEntry.ok e) {R : Value → Heap → Prop}
    (H : ∀ g' : GH, Mv [k] g g' → MakC g' c k pm real seed (whyT24 real A x e).2 → R (.int .i64 (whyT24 real A x e).1) g'.h) :
    HC Try.prog F.seal_Envelope_Why #[.pointer (some ⟨p, 0, none⟩), .agg ⟨ShEntry.enc e⟩] R g.h := by
  refine seal_Envelope_Why.calls ?_
  unfold seal_Envelope_Why.body
  obtain ⟨y, hy, hyn⟩ := fresh_exists g [c, k, ce]
  obtain ⟨y2, hy2, hyn2⟩ := fresh_exists g [c, k, ce, y]
  simp only [List.mem_cons, List.mem_nil_iff, or_false, not_or] at hyn hyn2
  have m := Mv.refl [k, y, y2] g
  have hre : ∀ j ∈ [k, y, y2], j ∈ [k] ∨ Fresh g j := by
    intro j hj
    simp only [List.mem_cons, List.mem_nil_iff, or_false] at hj
    rcases hj with rfl | rfl | rfl
    · exact .inl (by simp)
    · exact .inr hy
    · exact .inr hy2
  refine new_C g y fun pe q1 m1 be => ?_
  replace m := m.step m1 (by simp)
  replace v := v.mv m1 (by simp)
  replace xm := xm.mv m1 (by simp) (by simp)
  refine envMade_spec v ⟨_, rfl, ?_⟩
  try dsimp only
  rw [if_neg (by simp)]
  refine joinW_intro (fun s h' => ∃ (q : GH) (pd : Nat) (te : TypeId), s = some ⟨pd, 0, none⟩ ∧ h' = q.h ∧ Mv [y2] q1 q ∧ BlkC q y2 pd (deedA e.what.say) te) ?_ ?_
  · intro J hJ
    have E := entryAt ok (blkCells be)
    have B := bodyAt ok.2.2.2.1 E.what
    simp only [fldK_some]
    have still : ∀ q : GH, Mv [y2] q1 q → stillK (.int .i64) q.h (some ⟨pe, 0 + 65 + 0, none⟩) e.what.say := fun q mq =>
      stillK_cells (bodyAt ok.2.2.2.1 (entryAt ok (blkCells (be.mv mq (by simp [Ne.symm hyn2.2.2.2])))).what).say (j := 0) (by omega) rfl
    refine loadK_cells B.say e.what.say (j := 0) (k := .int .i64) (by omega) rfl ?_
    refine ⟨?_, ?_⟩
    · refine deeds_spec q1 y2 fun r q2 m2 xr => ⟨some r, rfl, ?_⟩
      refine ⟨still q2 (m2.mono (by simp)), ?_, ?_⟩
      · refine deedLook xr _ ?_
        refine newStore_C q2 y2 (by rw [szDeed]; rfl) (by rw [szDeed]; kernel_rfl) (deed_one _) fun pd q3 m3 bd => ?_
        exact hJ _ _ ⟨q3, pd, _, rfl, rfl, m2.then m3 (by simp), bd⟩
      · refine new_C q2 y2 fun pd q3 m3 bd => ?_
        refine deedLook (xr.mv m3 (by simp)) _ ?_
        refine storeAgg_C bd (by rw [szDeed]; rfl) (by rw [szDeed, zDeed]; decide) (deed_one _) fun q4 m4 bd => ?_
        rw [overA_all (by rw [zDeed]; rfl)] at bd
        exact hJ _ _ ⟨q4, pd, _, rfl, rfl, (m2.step m3 (L := []) (by simp)).then m4 (by simp), bd⟩
    · refine new_C q1 y2 fun pd q3 m3 bd => ?_
      refine deeds_spec q3 y fun r q2 m2 xr => ⟨some r, rfl, ?_⟩
      refine ⟨still q2 (m3.then m2 (by simp)), ?_⟩
      refine deedLook xr _ ?_
      refine storeAgg_C (bd.mv m2 (by simp)) (by rw [szDeed]; rfl) (by rw [szDeed, zDeed]; decide) (deed_one _) fun q4 m4 bd => ?_
      rw [overA_all (by rw [zDeed]; rfl)] at bd
      exact hJ _ _ ⟨q4, pd, _, rfl, rfl, (m3.step m2 (L := []) (by simp)).then m4 (by simp), bd⟩
  rintro _ _ ⟨q2, pd, td, rfl, rfl, m2, bd⟩
  replace m := m.step m2 (by simp)
  replace v := v.mv m2 (by simp [Ne.symm hyn2.2.2.1])
  replace xm := xm.mv m2 (by simp [Ne.symm hyn2.1]) (by simp [Ne.symm hyn2.2.1])
  replace be := be.mv m2 (by simp [Ne.symm hyn2.2.2.2])
  refine loadAgg_whole be (by rw [szEntry]; simpa using (lenEntry ok).symm) ?_
  refine msgEntry_spec q2 e ok fun q3 m3 => ⟨_, rfl, ?_⟩
  replace m := m.step m3 (by simp)
  replace v := v.mv m3 (by simp)
  replace xm := xm.mv m3 (by simp) (by simp)
  replace be := be.mv m3 (by simp)
  replace bd := bd.mv m3 (by simp)
  try dsimp only
  have E := entryAt ok (blkCells be)
  have B := bodyAt ok.2.2.2.1 E.what
  have V := v.parts
  have H3 : ∀ z : Int × List ShThing.T, whyT24 real A x e = z → z.2 = A → R (.int .i64 z.1) q3.h := by
    intro z hz hA
    have := H (g.via q3 id) (m.re id hre) (by rw [hz, hA]; exact xm.re (φ := id) m (.inl rfl) (.inl rfl))
    rw [hz] at this
    exact this
  by_cases hok : entryOk e = true
  rotate_left
  · rw [if_pos (by simpa using hok)]
    exact H3 (2, A) (by unfold whyT24; rw [if_pos hok]) rfl
  rw [if_neg (by simpa using hok)]
  simp only [derefK_some, fldK_some]
  refine loadTagAt (cellsTo E.game (by omega)) ok.1 ?_
  refine loadTagAt (cellsTo V.game (by omega)) v.ok.1 ?_
  refine neqF_Tag ok.1 v.ok.1 fun r hr => ?_
  by_cases hg : e.game = x.game
  rotate_left
  · rw [if_pos (hr.2 hg)]
    exact H3 (14, A) (by unfold whyT24; rw [if_neg (by simp [hok]), if_pos hg]) rfl
  rw [if_neg (fun h => hr.1 h hg)]
  refine joinW_intro (fun s h' => s = decide (¬ (deedT e.what.say).1 = 0 ∧ ¬ (deedT e.what.say).1 = x.state) ∧ h' = q3.h) ?_ ?_
  · intro J hJ
    rw [loadK_C bd]
    refine ⟨(deedT e.what.say).1, rfl, ?_⟩
    by_cases h0 : (deedT e.what.say).1 = 0
    · rw [if_neg (by simp [h0])]
      exact hJ _ _ ⟨by simp [h0], rfl⟩
    · rw [if_pos (by simp [h0])]
      rw [loadK_C bd]
      refine ⟨(deedT e.what.say).1, rfl, ?_⟩
      refine loadK_cells V.state x.state (j := 0) (k := .int .i64) rfl rfl ?_
      exact hJ _ _ ⟨by simp [h0]; rfl, rfl⟩
  rintro _ _ ⟨rfl, rfl⟩
  try dsimp only
  by_cases h18 : ¬ (deedT e.what.say).1 = 0 ∧ ¬ (deedT e.what.say).1 = x.state
  · rw [if_pos (by simpa using h18)]
    exact H3 (18, A) (by unfold whyT24; rw [if_neg (by simp [hok]), if_neg (by simp [hg]), if_pos h18]) rfl
  rw [if_neg (by simpa using h18)]
  refine joinW_intro (fun s h' => s = decide ((deedT e.what.say).2 > 0 ∧ ¬ e.number = IntKind.i64.wrap (x.no + (deedT e.what.say).2)) ∧ h' = q3.h) ?_ ?_
  · intro J hJ
    rw [loadK_C bd]
    refine ⟨(deedT e.what.say).2, rfl, ?_⟩
    by_cases h0 : (deedT e.what.say).2 > 0
    · rw [if_pos (by simpa using h0)]
      refine loadK_cells E.number e.number (j := 0) (k := .int .i64) rfl rfl ?_
      refine loadK_cells V.no x.no (j := 0) (k := .int .i64) rfl rfl ?_
      rw [loadK_C bd]
      refine ⟨(deedT e.what.say).2, rfl, ?_⟩
      exact hJ _ _ ⟨by simp only [h0, true_and]; rw [Bool.eq_iff_iff]; simp, rfl⟩
    · rw [if_neg (by simpa using h0)]
      exact hJ _ _ ⟨by simp [h0], rfl⟩
  rintro _ _ ⟨rfl, rfl⟩
  try dsimp only
  by_cases h11 : (deedT e.what.say).2 > 0 ∧ ¬ e.number = IntKind.i64.wrap (x.no + (deedT e.what.say).2)
  · rw [if_pos (by simpa using h11)]
    exact H3 (11, A) (by unfold whyT24; rw [if_neg (by simp [hok]), if_neg (by simp [hg]), if_neg h18, if_pos h11]) rfl
  rw [if_neg (by simpa using h11)]
  rw [loadK_C bd]
  refine ⟨(deedT e.what.say).1, rfl, ?_⟩
  by_cases h3 : (deedT e.what.say).1 = 3
  rotate_left
  · rw [if_neg (by simpa using h3)]
    exact H3 (0, A) (by unfold whyT24; rw [if_neg (by simp [hok]), if_neg (by simp [hg]), if_neg h18, if_neg h11, if_neg h3]) rfl
  rw [if_pos (by simpa using h3)]
  refine loadBodyAt (cellsTo E.what (by omega)) ok.2.2.2.1 ?_
  refine fits24_spec hck hce v xm e.what ok.2.2.2.1 fun q4 m4 xm4 => ⟨_, rfl, ?_⟩
  replace m := m.step m4 (by simp)
  try dsimp only
  have hw : whyT24 real A x e = (if fitsT x.tag (moveT22 real A x.game x.no e.what.move e.what.nonce).1 (moveT22 real A x.game x.no e.what.move e.what.nonce).2.1 = 0 then 0 else 16, (moveT22 real A x.game x.no e.what.move e.what.nonce).2.2) := by
    unfold whyT24; rw [if_neg (by simp [hok]), if_neg (by simp [hg]), if_neg h18, if_neg h11, if_pos h3]
  have H4 := H (g.via q4 id) (m.re id hre) (by rw [hw]; exact xm4.re (φ := id) m (.inl rfl) (.inl rfl))
  rw [hw] at H4
  by_cases hf : fitsT x.tag (moveT22 real A x.game x.no e.what.move e.what.nonce).1 (moveT22 real A x.game x.no e.what.move e.what.nonce).2.1 = 0
  · rw [if_neg (by simpa using hf)]
    rw [if_pos hf] at H4
    exact H4
  · rw [if_pos (by simpa using hf)]
    rw [if_neg hf] at H4
    exact H4

/-! ### Take -/
def takeT24 (real : Bool) : List ShThing.T → EnvT → List EntryT → Int × List ShThing.T × EnvT
  | A, x, [] => (0, A, x)
  | A, x, e :: l => if (whyT24 real A x e).1 = 0 then takeT24 real (whyT24 real A x e).2 (does24 x e) l else ((whyT24 real A x e).1, (whyT24 real A x e).2, x)
theorem takeT24_nil (real : Bool) (A : List ShThing.T) (x : EnvT) : takeT24 real A x [] = (0, A, x) := rfl
theorem takeT24_cons (real : Bool) (A : List ShThing.T) (x : EnvT) (e : EntryT) (l : List EntryT) : takeT24 real A x (e :: l) = if (whyT24 real A x e).1 = 0 then takeT24 real (whyT24 real A x e).2 (does24 x e) l else ((whyT24 real A x e).1, (whyT24 real A x e).2, x) := rfl
theorem deedF_good {n : Int} (h : n = 1 ∨ n = 2 ∨ n = 3 ∨ n = 4 ∨ n = 5 ∨ n = 6 ∨ n = 7) {g : GH} {ce p pm : Nat} {x : EnvT} (v : EnvC g ce p pm x) (e : EntryT) (ok : ShEntry.ok e) (hn : e.what.say = n) {K : Unit → Heap → Prop}
    (H : ∀ g' : GH, Mv [ce] g g' → EnvC g' ce p pm (does24 x e) → K () g'.h) : callV Try.prog .unit (deedF n) #[.pointer (some ⟨p, 0, none⟩), .agg ⟨ShEntry.enc e⟩] K g.h := by
  unfold does24 at H
  rw [hn] at H
  rcases h with rfl | rfl | rfl | rfl | rfl | rfl | rfl
  · exact .inl ⟨_, _, _, rfl, envPlain_spec _ _ fun g' m => ⟨(), rfl, H g' (m.mono (by simp)) (v.mv m (by simp))⟩⟩
  · exact .inl ⟨_, _, _, rfl, envPlain_spec _ _ fun g' m => ⟨(), rfl, H g' (m.mono (by simp)) (v.mv m (by simp))⟩⟩
  · exact .inl ⟨_, _, _, rfl, envPlain_spec _ _ fun g' m => ⟨(), rfl, H g' (m.mono (by simp)) (v.mv m (by simp))⟩⟩
  · exact .inl ⟨_, _, _, rfl, envPlain_spec _ _ fun g' m => ⟨(), rfl, H g' (m.mono (by simp)) (v.mv m (by simp))⟩⟩
  · exact .inl ⟨_, _, _, rfl, envSealed_spec v e ok fun g' m v' => ⟨(), rfl, H g' m v'⟩⟩
  · exact .inl ⟨_, _, _, rfl, envResumed_spec v _ fun g' m v' => ⟨(), rfl, H g' m v'⟩⟩
  · exact .inl ⟨_, _, _, rfl, envOpens_spec v e ok fun g' m v' => ⟨(), rfl, H g' m v'⟩⟩
theorem sayGood {e : EntryT} (h : entryOk e = true) : e.what.say = 1 ∨ e.what.say = 2 ∨ e.what.say = 3 ∨ e.what.say = 4 ∨ e.what.say = 5 ∨ e.what.say = 6 ∨ e.what.say = 7 := by
  unfold entryOk bodyOk namedD at h
  simp only [Bool.and_eq_true] at h
  obtain ⟨_, _, h, _⟩ := h
  split at h
  · omega
  split at h
  · omega
  split at h
  · omega
  split at h
  · omega
  · simp only [Bool.or_eq_true, beq_iff_eq] at h
    omega
theorem whyGood {real : Bool} {A : List ShThing.T} {x : EnvT} {e : EntryT} (h : (whyT24 real A x e).1 = 0) : entryOk e = true := by
  by_cases hk : entryOk e = true
  · exact hk
  · unfold whyT24 at h
    rw [if_pos hk] at h
    cases h
set_option maxHeartbeats 1000000 in
theorem envTake_spec {g : GH} {c k ce p pm d : Nat} (hck : ¬ c = k) (hce : ¬ ce = k) (hcc : ¬ ce = c) (hdk : ¬ d = k) (hdc : ¬ d = ce) {x : EnvT} (v : EnvC g ce p pm x) {real : Bool} {seed : List Int} {A : List ShThing.T} (xm : MakC g c k pm real seed A) (s : Sl) (xs : List EntryT) (hr : SlC g d ShEntry s xs) {R : Value → Heap → Prop}
    (H : ∀ g' : GH, Mv [k, ce] g g' → MakC g' c k pm real seed (takeT24 real A x xs).2.1 → EnvC g' ce p pm (takeT24 real A x xs).2.2 → R (.int .i64 (takeT24 real A x xs).1) g'.h) :
    HC Try.prog F.seal_Envelope_Take #[.pointer (some ⟨p, 0, none⟩), .slice s.a s.n s.c] R g.h := by
  refine seal_Envelope_Take.calls (l1 := s) ?_
  unfold seal_Envelope_Take.body
  obtain ⟨y, hy, hyn⟩ := fresh_exists g [c, k, ce, d]
  simp only [List.mem_cons, List.mem_nil_iff, or_false, not_or] at hyn
  have hre : ∀ j ∈ [k, ce, y], j ∈ [k, ce] ∨ Fresh g j := by
    intro j hj
    simp only [List.mem_cons, List.mem_nil_iff, or_false] at hj
    rcases hj with rfl | rfl | rfl
    · exact .inl (by simp)
    · exact .inl (by simp)
    · exact .inr hy
  refine envMade_spec v ⟨_, rfl, ?_⟩
  try dsimp only
  rw [if_neg (by simp)]
  have hn : s.n = xs.length := hr.len
  have hsm := hr.small
  refine loopW_rule (fun st h' => ∃ (i : Nat) (q : GH) (B : List ShThing.T) (z : EnvT), i ≤ xs.length ∧ st = (i : Int) ∧ h' = q.h ∧ Mv [k, ce, y] g q ∧ EnvC q ce p pm z ∧ MakC q c k pm real seed B ∧ takeT24 real A x xs = takeT24 real B z (xs.drop i)) (fun st => xs.length - st.toNat)
    ⟨0, g, A, x, by omega, rfl, rfl, Mv.refl _ _, v, xm, rfl⟩ ?_
  rintro X _ _ ⟨i, q, B, z, hi, rfl, rfl, m, v, xm, ht⟩ hX
  try dsimp only
  by_cases hlt : i < xs.length
  · rw [if_pos (by simp; omega)]
    have hdrop : xs.drop i = xs[i] :: xs.drop (i + 1) := List.drop_eq_getElem_cons hlt
    rw [hdrop] at ht
    refine (hr.mv m (by simp [hdk, hdc, Ne.symm hyn.2.2.2])).idxF rfl szF_Entry (by decide) hlt fun b o hcs ok hel => ?_
    refine loadEntryAt hcs ok ?_
    refine newStore_C q y (by rw [szEntry]; simpa using lenEntry ok) (by rw [szEntry, zEntry]; simpa using lenEntry okEntry0) (fun v hv => Sh.enc_one (s := ShEntry) rfl v hv) fun pe q1 m1 be => ?_
    replace m := m.step m1 (by simp)
    replace v := v.mv m1 (by simp)
    replace xm := xm.mv m1 (by simp) (by simp)
    generalize xs[i] = e at ht ok be
    refine loadAgg_whole be (by rw [szEntry]; simpa using (lenEntry ok).symm) ?_
    refine envWhy_spec hck hce v xm e ok fun q2 m2 xm2 => ⟨_, rfl, ?_⟩
    replace m := m.step m2 (by simp)
    replace v := v.mv m2 (by simp [hce])
    replace be := be.mv m2 (by simp [hyn.2.1])
    try dsimp only
    rw [takeT24_cons] at ht
    by_cases h0 : (whyT24 real B z e).1 = 0
    · rw [if_neg (by simpa using h0)]
      rw [if_pos h0] at ht
      have E := entryAt ok (blkCells be)
      have Bo := bodyAt ok.2.2.2.1 E.what
      simp only [fldK_some]
      refine loadK_cells Bo.say e.what.say (j := 0) (k := .int .i64) (by omega) rfl ?_
      refine loadAgg_whole be (by rw [szEntry]; simpa using (lenEntry ok).symm) ?_
      refine deeds_spec q2 y fun r q3 m3 xr => ⟨some r, rfl, ?_⟩
      replace m := m.step m3 (by simp)
      replace v := v.mv m3 (by simp)
      replace xm2 := xm2.mv m3 (by simp) (by simp)
      have be3 := be.mv m3 (by simp)
      have E3 := entryAt ok (blkCells be3)
      have st : stillAggK (sizeOfT Try.prog T.api_Entry) q3.h (some ⟨pe, 0, none⟩) ⟨ShEntry.enc e⟩ := loadEntryAt E3.whole ok rfl
      refine ⟨st, stillK_cells (bodyAt ok.2.2.2.1 E3.what).say (j := 0) (by omega) rfl, ?_⟩
      refine deedLook xr _ ?_
      refine ⟨st, ?_⟩
      refine ⟨deedF e.what.say, rfl, ?_⟩
      refine deedF_good (sayGood (whyGood h0)) v e ok rfl fun q4 m4 v4 => ?_
      replace m := m.step m4 (by simp)
      rw [wrapSucc (by omega)]
      exact hX _ _ ⟨i + 1, q4, _, _, by omega, rfl, rfl, m, v4, xm2.mv m4 (by simp [Ne.symm hcc]) (by simp [Ne.symm hce]), ht⟩ (by simp; omega)
    · rw [if_pos (by simpa using h0)]
      rw [if_neg h0] at ht
      have := H (g.via q2 id) (m.re id hre) (by rw [ht]; exact xm2.re (φ := id) m (.inl rfl) (.inl rfl)) (by rw [ht]; exact v.re (φ := id) m (.inl rfl))
      rw [ht] at this
      exact this
  · rw [if_neg (by simp; omega)]
    rw [List.drop_eq_nil_of_le (by omega), takeT24_nil] at ht
    have := H (g.via q id) (m.re id hre) (by rw [ht]; exact xm.re (φ := id) m (.inl rfl) (.inl rfl)) (by rw [ht]; exact v.re (φ := id) m (.inl rfl))
    rw [ht] at this
    exact this

/-! ### Make -/
def sealB24 (t : List Int) : BodyT := (5, move0, false, 0, t, zero32, ())
def openB24 (x : MoveT) (nonce : List Int) : BodyT := (7, x, false, 0, zero32, nonce, ())
def makeT24 (real : Bool) (A : List ShThing.T) (game : List Int) (number : Int) (x : MoveT) (nonce : List Int) : BodyT × BodyT × Int × List ShThing.T :=
  if (moveT22 real A game number x nonce).2.1 = 0 then (sealB24 (moveT22 real A game number x nonce).1, openB24 x nonce, 0, (moveT22 real A game number x nonce).2.2) else (body0, body0, (moveT22 real A game number x nonce).2.1, (moveT22 real A game number x nonce).2.2)
theorem bldSeal24 (t : List Int) (ht : ShTag.ok t) (w : World) : (Instr.build T.api_Body #[(0, .int .i64 5), (4, .agg (tagA t))]).run Try.prog w = .ok (.agg ⟨ShBody.enc (sealB24 t)⟩) w := by
  have te : tagA t = ⟨ShTag.enc t⟩ := by rw [encTag]
  rw [te]
  have h := build_segs (P := Try.prog) (t := T.api_Body) (fs := structFs Try.prog T.api_Body) (parts := #[(0, .int .i64 5), (4, .agg ⟨ShTag.enc t⟩)]) [[.int .i64 0], ShMove.enc move0, [.bool false], [.int .i64 0], ShTag.enc zero32, ShTag.enc zero32] (by kernel_rfl) (fun w => by kernel_rfl) (fun w => by kernel_rfl) (fun p hp => by
    simp only [List.mem_cons, List.mem_nil_iff, or_false] at hp
    rcases hp with rfl | rfl
    · exact ⟨_, rfl, rfl⟩
    · exact ⟨_, rfl, by show (ShTag.enc t).length = _; rw [lenTag ht, lenTag ok0]⟩) w
  rw [h]
  simp [Value.cells, Sh.enc, sealB24]
theorem bldOpen24 (x : MoveT) (t : List Int) (ht : ShTag.ok t) (w : World) : (Instr.build T.api_Body #[(0, .int .i64 7), (1, .agg ⟨ShMove.enc x⟩), (5, .agg (tagA t))]).run Try.prog w = .ok (.agg ⟨ShBody.enc (openB24 x t)⟩) w := by
  have te : tagA t = ⟨ShTag.enc t⟩ := by rw [encTag]
  rw [te]
  have h := build_segs (P := Try.prog) (t := T.api_Body) (fs := structFs Try.prog T.api_Body) (parts := #[(0, .int .i64 7), (1, .agg ⟨ShMove.enc x⟩), (5, .agg ⟨ShTag.enc t⟩)]) [[.int .i64 0], ShMove.enc move0, [.bool false], [.int .i64 0], ShTag.enc zero32, ShTag.enc zero32] (by kernel_rfl) (fun w => by kernel_rfl) (fun w => by kernel_rfl) (fun p hp => by
    simp only [List.mem_cons, List.mem_nil_iff, or_false] at hp
    rcases hp with rfl | rfl | rfl
    · exact ⟨_, rfl, rfl⟩
    · exact ⟨_, rfl, rfl⟩
    · exact ⟨_, rfl, by show (ShTag.enc t).length = _; rw [lenTag ht, lenTag ok0]⟩) w
  rw [h]
  simp [Value.cells, Sh.enc, openB24]
theorem oneBody {x : BodyT} : ∀ v ∈ (⟨ShBody.enc x⟩ : Array Value).toList, v.oneCell' = true := fun v hv => Sh.enc_one (s := ShBody) rfl v hv
theorem okSealB {t : List Int} (ht : ShTag.ok t) : ShBody.ok (sealB24 t) := ⟨okI (show -9223372036854775808 ≤ (5 : Int) ∧ (5 : Int) ≤ 9223372036854775807 by decide), okMove0, trivial, okI0, ht, ok0, trivial⟩
theorem okOpenB {x : MoveT} {t : List Int} (hx : ShMove.ok x) (ht : ShTag.ok t) : ShBody.ok (openB24 x t) := ⟨okI (show -9223372036854775808 ≤ (7 : Int) ∧ (7 : Int) ≤ 9223372036854775807 by decide), hx, trivial, okI0, ok0, ht, trivial⟩
theorem moveT22_tag (real : Bool) (A : List ShThing.T) (game : List Int) (number : Int) (x : MoveT) (nonce : List Int) : ShTag.ok (moveT22 real A game number x nonce).1 := by
  have := someT_tag real A (moveIs number x) nonce (moveRows game number x)
  exact okTag this.1 this.2
theorem makeT24_ok {real : Bool} {A : List ShThing.T} {game : List Int} {number : Int} {x : MoveT} {nonce : List Int} (hx : ShMove.ok x) (hn : ShTag.ok nonce) : ShBody.ok (makeT24 real A game number x nonce).1 ∧ ShBody.ok (makeT24 real A game number x nonce).2.1 := by
  unfold makeT24
  split
  · exact ⟨okSealB (moveT22_tag _ _ _ _ _ _), okOpenB hx hn⟩
  · exact ⟨okBody0, okBody0⟩

set_option maxHeartbeats 1000000 in
theorem sealMake_spec {g : GH} {c k pm : Nat} (hck : ¬ c = k) {real : Bool} {seed : List Int} {A : List ShThing.T} (xm : MakC g c k pm real seed A) (game : List Int) (okg : ShTag.ok game) (number : Int) (x : MoveT) (okx : ShMove.ok x) (nonce : List Int) (okn : ShTag.ok nonce) {R : Value → Heap → Prop}
    (H : ∀ g' : GH, Mv [k] g g' → MakC g' c k pm real seed (makeT24 real A game number x nonce).2.2.2 → R (.tuple #[.agg ⟨ShBody.enc (makeT24 real A game number x nonce).1⟩, .agg ⟨ShBody.enc (makeT24 real A game number x nonce).2.1⟩, .int .i64 (makeT24 real A game number x nonce).2.2.1]) g'.h) :
    HC Try.prog F.seal_Make #[.pointer (some ⟨pm, 0, none⟩), .agg (tagA game), .int .i64 number, .agg ⟨ShMove.enc x⟩, .agg (tagA nonce)] R g.h := by
  refine seal_Make.calls ?_
  unfold seal_Make.body
  have hgb := okTagB okg
  have hnb := okTagB okn
  obtain ⟨y, hy, hyn⟩ := fresh_exists g [c, k]
  obtain ⟨y2, hy2, hyn2⟩ := fresh_exists g [c, k, y]
  obtain ⟨y3, hy3, hyn3⟩ := fresh_exists g [c, k, y, y2]
  simp only [List.mem_cons, List.mem_nil_iff, or_false, not_or] at hyn hyn2 hyn3
  have m := Mv.refl [k, y, y2, y3] g
  have hre : ∀ j ∈ [k, y, y2, y3], j ∈ [k] ∨ Fresh g j := by
    intro j hj
    simp only [List.mem_cons, List.mem_nil_iff, or_false] at hj
    rcases hj with rfl | rfl | rfl | rfl
    · exact .inl (by simp)
    · exact .inr hy
    · exact .inr hy2
    · exact .inr hy3
  refine new_C g y fun pg q1 m1 bg => ?_
  refine new_C q1 y fun px q2 m2 bx => ?_
  refine new_C q2 y fun pn q3 m3 bn => ?_
  rw [zBody]
  refine new_C q3 y2 fun ps q4 m4 bs => ?_
  refine new_C q4 y3 fun po q5 m5 bo => ?_
  have e15 := (((m1.step m2 (L := []) (by simp)).step m3 (by simp)).step m4 (by simp)).step m5 (by simp)
  replace m := m.step e15 (by simp)
  replace xm := xm.mv e15 (by simp) (by simp)
  replace bg := (((bg.mv m2 (by simp)).mv m3 (by simp)).mv m4 (by simp)).mv m5 (by simp)
  replace bx := ((bx.mv m3 (by simp)).mv m4 (by simp)).mv m5 (by simp)
  replace bn := (bn.mv m4 (by simp)).mv m5 (by simp)
  replace bs := bs.mv m5 (by simp)
  refine loadAgg_whole bg (tagA_size hgb.1) ?_
  refine loadMoveAt (blkCells bx) ?_
  refine loadAgg_whole bn (tagA_size hnb.1) ?_
  refine move22_spec hck xm game okg number x okx nonce okn fun q6 m6 xm => ⟨(_, _), rfl, ?_⟩
  replace m := m.step m6 (by simp)
  replace bx := bx.mv m6 (by simp [hyn.2])
  replace bn := bn.mv m6 (by simp [hyn.2])
  replace bs := bs.mv m6 (by simp [hyn2.2.1])
  replace bo := bo.mv m6 (by simp [hyn3.2.1])
  try dsimp only
  have okt := moveT22_tag real A game number x nonce
  unfold makeT24 at H
  generalize moveT22 real A game number x nonce = mt at xm okt H
  have htb := okTagB okt
  rw [zTag]
  refine newStore_C q6 y (by rw [szTag]; simp [htb.1]) (by rw [szTag]; simp) (fun v hv => oneBy _ v hv) fun pt q7 m7 bt => ?_
  replace m := m.step m7 (by simp)
  replace xm := xm.mv m7 (by simp) (by simp)
  replace bx := bx.mv m7 (by simp)
  replace bn := bn.mv m7 (by simp)
  replace bs := bs.mv m7 (by simp)
  replace bo := bo.mv m7 (by simp)
  have lb0 : (⟨ShBody.enc body0⟩ : Array Value).size = 70 := by simpa using lenBody okBody0
  by_cases h0 : mt.2.1 = 0
  · rw [if_neg (by simpa using h0)]
    rw [if_pos h0] at H
    refine loadAgg_whole bt (tagA_size htb.1) ?_
    refine ⟨_, bldSeal24 _ okt, ?_⟩
    refine loadMoveAt (blkCells bx) ?_
    refine loadAgg_whole bn (tagA_size hnb.1) ?_
    refine ⟨_, bldOpen24 x nonce okn, ?_⟩
    have l1 : (⟨ShBody.enc (sealB24 mt.1)⟩ : Array Value).size = 70 := by simpa using lenBody (okSealB okt)
    have l2 : (⟨ShBody.enc (openB24 x nonce)⟩ : Array Value).size = 70 := by simpa using lenBody (okOpenB okx okn)
    refine storeAgg_C bs (by rw [szBody]; exact l1) (by rw [szBody, lb0]; decide) oneBody fun q8 m8 b8 => ?_
    rw [overA_all (by rw [lb0]; simpa using l1)] at b8
    replace m := m.step m8 (by simp)
    refine ⟨stillAgg_whole (bn.mv m8 (by simp [Ne.symm hyn2.2.2])) (tagA_size hnb.1), loadMoveAt (blkCells (bx.mv m8 (by simp [Ne.symm hyn2.2.2]))) rfl, ?_⟩
    refine storeAgg_C (bo.mv m8 (by simp [hyn3.2.2.2])) (by rw [szBody]; exact l2) (by rw [szBody, lb0]; decide) oneBody fun q9 m9 b9 => ?_
    rw [overA_all (by rw [lb0]; simpa using l2)] at b9
    replace m := m.step m9 (by simp)
    refine loadAt_agg (dBody _) ?_
    refine loadBodyAt (blkCells (b8.mv m9 (by simp [Ne.symm hyn3.2.2.2]))) (okSealB okt) ?_
    refine loadAt_agg (dBody _) ?_
    refine loadBodyAt (blkCells b9) (okOpenB okx okn) ?_
    exact H (g.via q9 id) (m.re id hre) (((xm.mv m8 (by simp [Ne.symm hyn2.1]) (by simp [Ne.symm hyn2.2.1])).mv m9 (by simp [Ne.symm hyn3.1]) (by simp [Ne.symm hyn3.2.1])).re (φ := id) m (.inl rfl) (.inl rfl))
  · rw [if_pos (by simpa using h0)]
    rw [if_neg h0] at H
    refine loadBodyAt (blkCells bs) okBody0 ?_
    refine loadBodyAt (blkCells bo) okBody0 ?_
    refine storeAgg_C bs (by rw [szBody]; exact lb0) (by rw [szBody, lb0]; decide) oneBody fun q8 m8 b8 => ?_
    rw [overA_all (by simp)] at b8
    replace m := m.step m8 (by simp)
    have bo8 := bo.mv m8 (by simp [hyn3.2.2.2])
    refine ⟨loadBodyAt (blkCells bo8) okBody0 rfl, ?_⟩
    refine storeAgg_C bo8 (by rw [szBody]; exact lb0) (by rw [szBody, lb0]; decide) oneBody fun q9 m9 b9 => ?_
    rw [overA_all (by simp)] at b9
    replace m := m.step m9 (by simp)
    refine loadAt_agg (dBody _) ?_
    refine loadBodyAt (blkCells (b8.mv m9 (by simp [Ne.symm hyn3.2.2.2]))) okBody0 ?_
    refine loadAt_agg (dBody _) ?_
    refine loadBodyAt (blkCells b9) okBody0 ?_
    exact H (g.via q9 id) (m.re id hre) (((xm.mv m8 (by simp [Ne.symm hyn2.1]) (by simp [Ne.symm hyn2.2.1])).mv m9 (by simp [Ne.symm hyn3.1]) (by simp [Ne.symm hyn3.2.1])).re (φ := id) m (.inl rfl) (.inl rfl))

end Go.Proofs.Ytijipdaofojbiaa

/-
  The chapter's example.
-/
set_option linter.unusedSimpArgs false
set_option linter.unusedVariables false
namespace Go.Proofs.Ytijipdaofojbiaa
open Go Go.Ev

theorem bldEntryB (b : BodyT) (ok : ShBody.ok b) (w : World) : (Instr.build T.api_Entry #[(3, .agg ⟨ShBody.enc b⟩)]).run Try.prog w = .ok (.agg ⟨ShEntry.enc (zero32, 0, zero32, b, ())⟩) w := by
  have h := build_segs (P := Try.prog) (t := T.api_Entry) (fs := structFs Try.prog T.api_Entry) (parts := #[(3, .agg ⟨ShBody.enc b⟩)]) [ShTag.enc zero32, [.int .i64 0], ShTag.enc zero32, ShBody.enc body0] (by kernel_rfl) (fun w => by kernel_rfl) (fun w => by kernel_rfl) (fun p hp => by
    simp only [List.mem_cons, List.mem_nil_iff, or_false] at hp
    subst hp
    exact ⟨_, rfl, by show (ShBody.enc b).length = _; rw [lenBody ok, lenBody okBody0]⟩) w
  rw [h]
  simp [Value.cells, Sh.enc]
theorem bldEntryNB (n : Int) (b : BodyT) (ok : ShBody.ok b) (w : World) : (Instr.build T.api_Entry #[(1, .int .i64 n), (3, .agg ⟨ShBody.enc b⟩)]).run Try.prog w = .ok (.agg ⟨ShEntry.enc (zero32, n, zero32, b, ())⟩) w := by
  have h := build_segs (P := Try.prog) (t := T.api_Entry) (fs := structFs Try.prog T.api_Entry) (parts := #[(1, .int .i64 n), (3, .agg ⟨ShBody.enc b⟩)]) [ShTag.enc zero32, [.int .i64 0], ShTag.enc zero32, ShBody.enc body0] (by kernel_rfl) (fun w => by kernel_rfl) (fun w => by kernel_rfl) (fun p hp => by
    simp only [List.mem_cons, List.mem_nil_iff, or_false] at hp
    rcases hp with rfl | rfl
    · exact ⟨_, rfl, rfl⟩
    · exact ⟨_, rfl, by show (ShBody.enc b).length = _; rw [lenBody ok, lenBody okBody0]⟩) w
  rw [h]
  simp [Value.cells, Sh.enc]
def plainB (n : Int) : BodyT := (n, move0, false, 0, zero32, zero32, ())
theorem bldBody24 (n : Int) (w : World) : (Instr.build T.api_Body #[(0, .int .i64 n)]).run Try.prog w = .ok (.agg ⟨ShBody.enc (plainB n)⟩) w := by kernel_rfl
theorem okPlainB {n : Int} (h : -9223372036854775808 ≤ n ∧ n ≤ 9223372036854775807) : ShBody.ok (plainB n) := ⟨okI h, okMove0, trivial, okI0, ok0, ok0, trivial⟩
theorem okEntry24 {game : List Int} {n : Int} {b : BodyT} (h1 : ShTag.ok game) (h2 : -9223372036854775808 ≤ n ∧ n ≤ 9223372036854775807) (h3 : ShBody.ok b) : ShEntry.ok (game, n, zero32, b, ()) := ⟨h1, h2, ok0, h3, trivial⟩

theorem bldTagZ (w : World) : (Instr.build T.api_Tag #[]).run Try.prog w = .ok (.agg (tagA zero32)) w := by kernel_rfl
theorem eqMove_F {x y : MoveT} {ox oy : Operand} (hx : ShMove.ok x) (hy : ShMove.ok y) {K : Bool → Prop} (H : K (decide (x = y))) : eqK Try.prog (binSem .eql T.api_Move ox oy (.agg ⟨ShMove.enc x⟩) (.agg ⟨ShMove.enc y⟩)) K :=
  eqK_flat (P := Try.prog) ShMove (t := T.api_Move) (m := 10) (by decide) rfl (by kernel_rfl) (by kernel_rfl) (by kernel_rfl) (by kernel_rfl) (by kernel_rfl) hx hy fun r hr => by
    have : r = decide (x = y) := by cases r <;> simp_all
    rw [this]; exact H
/-! ### The example -/
def x24 : MoveT := (12, 28, 0, ())
theorem okX24 : ShMove.ok x24 := ⟨okI (show -9223372036854775808 ≤ (12 : Int) ∧ (12 : Int) ≤ 9223372036854775807 by decide), okI (show -9223372036854775808 ≤ (28 : Int) ∧ (28 : Int) ≤ 9223372036854775807 by decide), okI0, trivial⟩
def mk24 : BodyT × BodyT × Int × List ShThing.T := makeT24 false [thD 0] zero32 0 x24 (numT 0)
def env24 : EnvT := (zero32, 0, zero32, 1, move0, false, ())
def tk1 : Int × List ShThing.T × EnvT := takeT24 false mk24.2.2.2 env24 [(zero32, 0, zero32, mk24.1, ())]
def tk2 : Int × List ShThing.T × EnvT := takeT24 false tk1.2.1 tk1.2.2 [(zero32, 1, zero32, plainB 6, ())]
def tk3 : Int × List ShThing.T × EnvT := takeT24 false tk2.2.1 tk2.2.2 [(zero32, 2, zero32, mk24.2.1, ())]
theorem draw24 : askT [] (thD 0) = (0, [thD 0]) := by kernel_rfl
theorem mk24_0 : mk24.2.2.1 = 0 := by kernel_rfl
theorem tk1_0 : tk1.1 = 0 := by kernel_rfl
theorem tk1_s : tk1.2.2.state = 2 := by kernel_rfl
theorem tk2_0 : tk2.1 = 0 := by kernel_rfl
theorem tk3_0 : tk3.1 = 0 := by kernel_rfl
theorem tk3_s : tk3.2.2.state = 1 := by kernel_rfl
theorem tk3_l : tk3.2.2.last = x24 := by kernel_rfl
theorem tk3_o : tk3.2.2.opened = true := by kernel_rfl
def As24 (n : Nat) : List ShThing.T := if n = 0 then [] else if n = 1 then [thD 0] else mk24.2.2.2
theorem bldX24 (w : World) : (Instr.build T.api_Move #[(0, .int .i64 12), (1, .int .i64 28)]).run Try.prog w = .ok (.agg ⟨ShMove.enc x24⟩) w := by kernel_rfl

set_option maxHeartbeats 4000000 in
set_option maxRecDepth 20000 in
theorem awake24_spec (g : GH) {R : Value → Heap → Prop} (H : ∀ g' : GH, Mv [] g g' → R (.bool true) g'.h) : HC Try.prog F.law24_awake #[] R g.h := by
  refine law24_awake.calls ?_
  unfold law24_awake.body
  have m := Mv.refl [1, 2, 3, 4, 5, 6, 7] g.base
  refine makNew_spec g.base 1 2 false ⟨none, 0, 0⟩ [] (RdC.nil _ _ 0 _ _) (by simp) (by simp) fun pm q1 m1 xm => ⟨_, rfl, ?_⟩
  replace m := m.step m1 (by simp)
  refine ⟨_, bldX24, ?_⟩
  refine newStore_C q1 3 (by rw [szMove]; rfl) (by rw [szMove]; kernel_rfl) (oneMove _) fun px q2 m2 bx => ?_
  replace m := m.step m2 (by simp)
  replace xm := xm.mv m2 (by simp) (by simp)
  have okm : ShBody.ok mk24.1 ∧ ShBody.ok mk24.2.1 := makeT24_ok (real := false) (A := [thD 0]) (game := zero32) (number := 0) okX24 (okTag (numT_length 0) (numT_byte 0))
  refine joinW_intro (fun s h' => ∃ (q : GH) (pa pb : Nat) (ca cb : Nat), s = (some ⟨pa, 0, none⟩, some ⟨pb, 0, none⟩, 0) ∧ h' = q.h ∧ Mv [1, 2, 3, 4, 5, 6, 7] g.base q ∧ BlkC q 3 px ⟨ShMove.enc x24⟩ T.api_Move ∧ MakC q 1 2 pm false [] mk24.2.2.2 ∧
      BlkC q ca pa ⟨ShBody.enc mk24.1⟩ T.api_Body ∧ BlkC q cb pb ⟨ShBody.enc mk24.2.1⟩ T.api_Body ∧ (ca = 4 ∨ ca = 5) ∧ (cb = 4 ∨ cb = 5)) ?_ ?_
  · intro J hJ
    refine ⟨_, bldTagZ, ?_⟩
    refine loadMoveAt (blkCells bx) ?_
    rw [zBody]
    have lb0 : (⟨ShBody.enc body0⟩ : Array Value).size = 70 := by simpa using lenBody okBody0
    have l1 : (⟨ShBody.enc mk24.1⟩ : Array Value).size = 70 := by simpa using lenBody okm.1
    have l2 : (⟨ShBody.enc mk24.2.1⟩ : Array Value).size = 70 := by simpa using lenBody okm.2
    obtain ⟨S, hS⟩ : ∃ S : Nat → Option Nat → Option Nat → GH → Prop, ∀ n o1 o2 q, S n o1 o2 q ↔ (Mv [1, 2, 3, 4, 5, 6, 7] g.base q ∧ BlkC q 3 px ⟨ShMove.enc x24⟩ T.api_Move ∧ MakC q 1 2 pm false [] (As24 n) ∧
      (∀ p, o1 = some p → BlkC q 4 p ⟨ShBody.enc body0⟩ T.api_Body) ∧ (∀ p, o2 = some p → BlkC q 5 p ⟨ShBody.enc body0⟩ T.api_Body)) := ⟨fun n o1 o2 q => _, fun _ _ _ _ => Iff.rfl⟩
    have sN1 : ∀ {n : Nat} {q : GH} {K : Option Addr → Heap → Prop}, S n none none q → (∀ (p : Nat) (q' : GH), S n (some p) none q' → K (some ⟨p, 0, none⟩) q'.h) → newK q.h ⟨ShBody.enc body0⟩ T.api_Body K := by
      intro n q K s h
      obtain ⟨m, bx, xm, f1, f2⟩ := (hS _ _ _ _).1 s
      exact new_C q 4 fun p q' e b => h p q' ((hS _ _ _ _).2 ⟨m.step e (by simp), bx.mv e (by simp), xm.mv e (by simp) (by simp), fun p' h' => by cases h'; exact b, fun p' h' => by cases h'⟩)
    have sN2 : ∀ {n p1 : Nat} {q : GH} {K : Option Addr → Heap → Prop}, S n (some p1) none q → (∀ (p : Nat) (q' : GH), S n (some p1) (some p) q' → K (some ⟨p, 0, none⟩) q'.h) → newK q.h ⟨ShBody.enc body0⟩ T.api_Body K := by
      intro n p1 q K s h
      obtain ⟨m, bx, xm, f1, f2⟩ := (hS _ _ _ _).1 s
      exact new_C q 5 fun p q' e b => h p q' ((hS _ _ _ _).2 ⟨m.step e (by simp), bx.mv e (by simp), xm.mv e (by simp) (by simp), fun p' h' => (f1 p' h').mv e (by simp), fun p' h' => by cases h'; exact b⟩)
    have sD : ∀ {o1 o2 : Option Nat} {q : GH} {K : Array Value → Heap → Prop}, S 0 o1 o2 q → (∀ q' : GH, S 1 o1 o2 q' → K (tagA (numT 0)) q'.h) → callK Try.prog .agg F.tags_Maker_Draw #[.pointer (some ⟨pm, 0, none⟩), .int .i64 0] K q.h := by
      intro o1 o2 q K s h
      obtain ⟨m, bx, xm, f1, f2⟩ := (hS _ _ _ _).1 s
      refine drawTab_spec (by decide) xm 0 (by decide) fun q' e xm' => ⟨_, rfl, ?_⟩
      have ea : askT (As24 0) (thD 0) = (0, [thD 0]) := draw24
      rw [ea] at xm' ⊢
      exact h q' ((hS _ _ _ _).2 ⟨m.step e (by simp), bx.mv e (by simp), xm', fun p' h' => (f1 p' h').mv e (by simp), fun p' h' => (f2 p' h').mv e (by simp)⟩)
    have sM : ∀ {o1 o2 : Option Nat} {q : GH} {K : Array Value × Array Value × Int → Heap → Prop}, S 1 o1 o2 q → (∀ q' : GH, S 2 o1 o2 q' → K (⟨ShBody.enc mk24.1⟩, ⟨ShBody.enc mk24.2.1⟩, 0) q'.h) →
        callK Try.prog (Kd.trip .agg .agg (.int .i64)) F.seal_Make #[.pointer (some ⟨pm, 0, none⟩), .agg (tagA zero32), .int .i64 0, .agg ⟨ShMove.enc x24⟩, .agg (tagA (numT 0))] K q.h := by
      intro o1 o2 q K s h
      obtain ⟨m, bx, xm, f1, f2⟩ := (hS _ _ _ _).1 s
      refine sealMake_spec (by decide) xm zero32 ok0 0 x24 okX24 (numT 0) (okTag (numT_length 0) (numT_byte 0)) fun q' e xm' => ⟨(_, _, _), rfl, ?_⟩
      have em : makeT24 false (As24 1) zero32 0 x24 (numT 0) = mk24 := rfl
      rw [em] at xm' ⊢
      show K (⟨ShBody.enc mk24.1⟩, ⟨ShBody.enc mk24.2.1⟩, mk24.2.2.1) q'.h
      rw [mk24_0]
      exact h q' ((hS _ _ _ _).2 ⟨m.step e (by simp), bx.mv e (by simp), xm', fun p' h' => (f1 p' h').mv e (by simp), fun p' h' => (f2 p' h').mv e (by simp)⟩)
    have stl : ∀ {n : Nat} {o1 o2 : Option Nat} {q : GH}, S n o1 o2 q → stillAggK (sizeOfT Try.prog T.api_Move) q.h (some ⟨px, 0, none⟩) ⟨ShMove.enc x24⟩ := by
      intro n o1 o2 q s
      obtain ⟨m, bx, xm, f1, f2⟩ := (hS _ _ _ _).1 s
      exact loadMoveAt (blkCells bx) rfl
    have fin1 : ∀ {p1 p2 : Nat} {q : GH}, S 2 (some p1) (some p2) q → storeAggK (sizeOfT Try.prog T.api_Body) q.h (some ⟨p1, 0, none⟩) ⟨ShBody.enc mk24.1⟩ (fun h => storeAggK (sizeOfT Try.prog T.api_Body) h (some ⟨p2, 0, none⟩) ⟨ShBody.enc mk24.2.1⟩ (fun h => J (some ⟨p1, 0, none⟩, some ⟨p2, 0, none⟩, 0) h)) := by
      intro p1 p2 q s
      obtain ⟨m, bx, xm, f1, f2⟩ := (hS _ _ _ _).1 s
      refine storeAgg_C (f1 p1 rfl) (by rw [szBody]; exact l1) (by rw [szBody, lb0]; decide) oneBody fun q8 m8 b8 => ?_
      rw [overA_all (by rw [lb0]; simpa using l1)] at b8
      refine storeAgg_C ((f2 p2 rfl).mv m8 (by simp)) (by rw [szBody]; exact l2) (by rw [szBody, lb0]; decide) oneBody fun q9 m9 b9 => ?_
      rw [overA_all (by rw [lb0]; simpa using l2)] at b9
      exact hJ _ _ ⟨q9, p1, p2, 4, 5, rfl, rfl, (m.step m8 (by simp)).step m9 (by simp), (bx.mv m8 (by simp)).mv m9 (by simp), (xm.mv m8 (by simp) (by simp)).mv m9 (by simp) (by simp), b8.mv m9 (by simp), b9, by simp, by simp⟩
    have fin2 : ∀ {p1 p2 : Nat} {q : GH}, S 2 (some p1) (some p2) q → storeAggK (sizeOfT Try.prog T.api_Body) q.h (some ⟨p2, 0, none⟩) ⟨ShBody.enc mk24.1⟩ (fun h => storeAggK (sizeOfT Try.prog T.api_Body) h (some ⟨p1, 0, none⟩) ⟨ShBody.enc mk24.2.1⟩ (fun h => J (some ⟨p2, 0, none⟩, some ⟨p1, 0, none⟩, 0) h)) := by
      intro p1 p2 q s
      obtain ⟨m, bx, xm, f1, f2⟩ := (hS _ _ _ _).1 s
      refine storeAgg_C (f2 p2 rfl) (by rw [szBody]; exact l1) (by rw [szBody, lb0]; decide) oneBody fun q8 m8 b8 => ?_
      rw [overA_all (by rw [lb0]; simpa using l1)] at b8
      refine storeAgg_C ((f1 p1 rfl).mv m8 (by simp)) (by rw [szBody]; exact l2) (by rw [szBody, lb0]; decide) oneBody fun q9 m9 b9 => ?_
      rw [overA_all (by rw [lb0]; simpa using l2)] at b9
      exact hJ _ _ ⟨q9, p2, p1, 5, 4, rfl, rfl, (m.step m8 (by simp)).step m9 (by simp), (bx.mv m8 (by simp)).mv m9 (by simp), (xm.mv m8 (by simp) (by simp)).mv m9 (by simp) (by simp), b8.mv m9 (by simp), b9, by simp, by simp⟩
    have st : S 0 none none q2 := (hS _ _ _ _).2 ⟨m, bx, xm, fun _ h => (by cases h), fun _ h => (by cases h)⟩
    clear hS hJ m bx xm
    repeat' (first
      | with_reducible exact fin1 st
      | with_reducible exact fin2 st
      | with_reducible exact stl st
      | (with_reducible refine sD st ?_; intro q' st; try dsimp only)
      | (with_reducible refine sM st ?_; intro q' st; try dsimp only)
      | (with_reducible refine sN2 st ?_; intro p' q' st; try dsimp only)
      | (with_reducible refine sN1 st ?_; intro p' q' st; try dsimp only)
      | with_reducible refine And.intro ?_ ?_)
  rintro _ _ ⟨q3, pa, pb, ca, cb, rfl, rfl, m, bx, xm, ba, bb, hca, hcb⟩
  try dsimp only
  refine ⟨_, bldTagZ, ?_⟩
  refine envNew_spec xm zero32 ok0 6 fun p q4 m4 v => ⟨(_, _), rfl, ?_⟩
  replace m := m.step m4 (by simp)
  replace bx := bx.mv m4 (by simp)
  replace xm := xm.mv m4 (by simp) (by simp)
  replace ba := ba.mv m4 (by simp)
  replace bb := bb.mv m4 (by simp)
  try dsimp only
  rw [if_neg (by simp), if_neg (by simp)]
  refine loadBodyAt (blkCells ba) okm.1 ?_
  refine ⟨_, bldEntryB _ okm.1, ?_⟩
  refine mkEntry_C q4 7 (okEntry24 ok0 (by decide) okm.1) fun s5 q5 m5 o5 hc5 => ?_
  replace m := m.step m5 (by simp)
  replace bx := bx.mv m5 (by simp)
  replace xm := xm.mv m5 (by simp) (by simp)
  replace bb := bb.mv m5 (by simp)
  replace v := v.mv m5 (by simp)
  refine envTake_spec (by decide) (by decide) (by decide) (by decide) (by decide) v xm s5 _ (o5.slc rfl (by simp)) fun q6 m6 xm v => ⟨_, rfl, ?_⟩
  have e1 : takeT24 false mk24.2.2.2 (zero32, 0, zero32, 1, move0, false, ()) [(zero32, 0, zero32, mk24.1, ())] = tk1 := rfl
  rw [e1] at xm v ⊢
  replace m := m.step m6 (by simp)
  replace bx := bx.mv m6 (by simp)
  replace bb := bb.mv m6 (by rcases hcb with rfl | rfl <;> simp)
  try dsimp only
  rw [tk1_0, if_neg (by simp)]
  refine envState_spec v ⟨_, rfl, ?_⟩
  try dsimp only
  rw [tk1_s, if_neg (by simp)]
  refine ⟨_, bldBody24 6, ?_⟩
  have ok6 : ShBody.ok (plainB 6) := okPlainB (by decide)
  refine ⟨_, bldEntryNB 1 _ ok6, ?_⟩
  refine mkEntry_C q6 7 (okEntry24 ok0 (by decide) ok6) fun s7 q7 m7 o7 hc7 => ?_
  replace m := m.step m7 (by simp)
  replace bx := bx.mv m7 (by simp)
  replace xm := xm.mv m7 (by simp) (by simp)
  replace bb := bb.mv m7 (by simp)
  replace v := v.mv m7 (by simp)
  refine envTake_spec (by decide) (by decide) (by decide) (by decide) (by decide) v xm s7 _ (o7.slc rfl (by simp)) fun q8 m8 xm v => ⟨_, rfl, ?_⟩
  have e2 : takeT24 false tk1.2.1 tk1.2.2 [(zero32, 1, zero32, plainB 6, ())] = tk2 := rfl
  rw [e2] at xm v ⊢
  replace m := m.step m8 (by simp)
  replace bx := bx.mv m8 (by simp)
  replace bb := bb.mv m8 (by rcases hcb with rfl | rfl <;> simp)
  try dsimp only
  rw [tk2_0, if_neg (by simp)]
  refine loadBodyAt (blkCells bb) okm.2 ?_
  refine ⟨_, bldEntryNB 2 _ okm.2, ?_⟩
  refine mkEntry_C q8 7 (okEntry24 ok0 (by decide) okm.2) fun s9 q9 m9 o9 hc9 => ?_
  replace m := m.step m9 (by simp)
  replace bx := bx.mv m9 (by simp)
  replace xm := xm.mv m9 (by simp) (by simp)
  replace v := v.mv m9 (by simp)
  refine envTake_spec (by decide) (by decide) (by decide) (by decide) (by decide) v xm s9 _ (o9.slc rfl (by simp)) fun q10 m10 xm v => ⟨_, rfl, ?_⟩
  have e3 : takeT24 false tk2.2.1 tk2.2.2 [(zero32, 2, zero32, mk24.2.1, ())] = tk3 := rfl
  rw [e3] at xm v ⊢
  replace m := m.step m10 (by simp)
  replace bx := bx.mv m10 (by simp)
  try dsimp only
  rw [tk3_0, if_neg (by simp)]
  refine envOpened_spec v fun q11 m11 => ⟨(_, _), rfl, ?_⟩
  replace m := m.step m11 (by simp)
  replace bx := bx.mv m11 (by simp)
  replace v := v.mv m11 (by simp)
  try dsimp only
  rw [tk3_l]
  refine newStore_C q11 4 (by rw [szMove]; rfl) (by rw [szMove]; kernel_rfl) (oneMove _) fun py q12 m12 by_ => ?_
  replace m := m.step m12 (by simp)
  rw [if_pos (show _ = true from tk3_o)]
  refine loadMoveAt (blkCells by_) ?_
  refine loadMoveAt (blkCells (bx.mv m12 (by simp))) ?_
  refine eqMove_F okX24 okX24 ?_
  rw [if_pos (by simp)]
  refine envState_spec (v.mv m12 (by simp)) ⟨_, rfl, ?_⟩
  try dsimp only
  rw [tk3_s]
  exact H (g.via q12 fun _ => 0) (m.via (by simp) _)

end Go.Proofs.Ytijipdaofojbiaa
