/-
  Envelopes: the sealed move.
-/
import Derived.Test.YtejjeggaofpbiaaKMoves22
import Derived.Test.YtejjeggaofpbiaaSegs
set_option linter.unusedSimpArgs false
set_option linter.unusedVariables false
namespace Go.Proofs.Ytejjeggaofpbiaa
open Go Go.Ev

/-- An envelope: its game, its seal's number and tag, its state, the last move, whether one was opened. -/
abbrev ShEnv : Sh := .pair ShTag (.pair (.int .i64) (.pair ShTag (.pair (.int .i64) (.pair ShMove (.pair .bool .unit)))))
abbrev EnvT := List Int × Int × List Int × Int × MoveT × Bool × Unit
abbrev EnvT.game (x : EnvT) : List Int := x.1
abbrev EnvT.no (x : EnvT) : Int := x.2.1
abbrev EnvT.tag (x : EnvT) : List Int := x.2.2.1
abbrev EnvT.state (x : EnvT) : Int := x.2.2.2.1
abbrev EnvT.last (x : EnvT) : MoveT := x.2.2.2.2.1
abbrev EnvT.opened (x : EnvT) : Bool := x.2.2.2.2.2.1
structure EnvC (g : GH) (c p pm : Nat) (x : EnvT) : Prop where
  blk : BlkC g c p ⟨.pointer (some ⟨pm, 0, none⟩) :: ShEnv.enc x⟩ T.seal_Envelope
  ok : ShEnv.ok x
  st : 1 ≤ x.state ∧ x.state ≤ 3
theorem EnvC.mv {K : List Nat} {g g' : GH} {c p pm : Nat} {x : EnvT} (e : EnvC g c p pm x) (m : Mv K g g') (h : c ∉ K) : EnvC g' c p pm x := ⟨e.blk.mv m h, e.ok, e.st⟩
theorem EnvC.re {K : List Nat} {g q : GH} {c p pm : Nat} {x : EnvT} (e : EnvC q c p pm x) (m : Mv K g q) {φ : Nat → Nat} (h : φ c = c ∨ Fresh g c) : EnvC (g.via q φ) (φ c) p pm x := ⟨e.blk.re m h, e.ok, e.st⟩
theorem EnvC.via {K : List Nat} {g q : GH} {c p pm : Nat} {x : EnvT} (e : EnvC q c p pm x) (m : Mv K g.base q) (h : c ≠ 0) (φ : Nat → Nat) : EnvC (g.via q φ) (φ c) p pm x := ⟨e.blk.via m h φ, e.ok, e.st⟩
theorem okEnv {game tag : List Int} {no state : Int} {last : MoveT} {opened : Bool} (h1 : ShTag.ok game) (h2 : -9223372036854775808 ≤ no ∧ no ≤ 9223372036854775807) (h3 : ShTag.ok tag) (h4 : 1 ≤ state ∧ state ≤ 3) (h5 : ShMove.ok last) : ShEnv.ok (game, no, tag, state, last, opened, ()) :=
  ⟨h1, h2, h3, (show -9223372036854775808 ≤ state ∧ state ≤ 9223372036854775807 by omega), h5, trivial, trivial⟩

structure EnvAt (g : GH) (c p pm : Nat) (x : EnvT) : Prop where
  maker : CellsC g c p 0 [.pointer (some ⟨pm, 0, none⟩)]
  game : CellsC g c p 1 (ShTag.enc x.game)
  no : CellsC g c p 33 [.int .i64 x.no]
  tag : CellsC g c p 34 (ShTag.enc x.tag)
  state : CellsC g c p 66 [.int .i64 x.state]
  last : CellsC g c p 67 (ShMove.enc x.last)
  opened : CellsC g c p 70 [.bool x.opened]
theorem EnvC.parts {g : GH} {c p pm : Nat} {x : EnvT} (e : EnvC g c p pm x) : EnvAt g c p pm x := by
  have h0 : CellsC g c p 0 ([.pointer (some ⟨pm, 0, none⟩)] ++ ShEnv.enc x) := blkCells e.blk
  have h1 := cellsSnd (n := 1) h0 rfl
  have h2 := cellsSnd (n := 32) h1 (lenTag e.ok.1)
  have h3 := cellsSnd (n := 1) h2 rfl
  have h4 := cellsSnd (n := 32) h3 (lenTag e.ok.2.2.1)
  have h5 := cellsSnd (n := 1) h4 rfl
  have h6 := cellsSnd (n := 3) h5 rfl
  exact ⟨cellsFst h0, cellsTo (cellsFst h1) (by omega), cellsTo (cellsFst h2) (by omega), cellsTo (cellsFst h3) (by omega), cellsTo (cellsFst h4) (by omega), cellsTo (cellsFst h5) (by omega), cellsTo (cellsFst h6) (by omega)⟩

/-! ### Parts written -/
theorem envForm (pv : Value) (x : EnvT) : (pv :: ShEnv.enc x) = pv :: (ShTag.enc x.game ++ (.int .i64 x.no :: (ShTag.enc x.tag ++ (.int .i64 x.state :: (ShMove.enc x.last ++ [.bool x.opened]))))) := by simp [Sh.enc]
theorem envSetNo (pv : Value) (x : EnvT) (ok : ShEnv.ok x) (n : Int) : (⟨pv :: ShEnv.enc x⟩ : Array Value).setIfInBounds 33 (.int .i64 n) = ⟨pv :: ShEnv.enc (x.game, n, x.tag, x.state, x.last, x.opened, ())⟩ := by
  rw [envForm, envForm]
  exact set_at (pre := pv :: ShTag.enc x.game) (by simp [lenTag ok.1])
theorem envSetTag (pv : Value) (x : EnvT) (ok : ShEnv.ok x) (t : List Int) (ht : ShTag.ok t) : overA ⟨pv :: ShEnv.enc x⟩ 34 (ShTag.enc t) = ⟨pv :: ShEnv.enc (x.game, x.no, t, x.state, x.last, x.opened, ())⟩ := by
  rw [envForm, envForm]
  have := over_at (pre := pv :: (ShTag.enc x.game ++ [.int .i64 x.no])) (mid := ShTag.enc x.tag) (post := .int .i64 x.state :: (ShMove.enc x.last ++ [.bool x.opened])) (new := ShTag.enc t) (n := 34) (by simp [lenTag ok.1]) (by rw [lenTag ht, lenTag ok.2.2.1])
  simpa using this
theorem envSetState (pv : Value) (x : EnvT) (ok : ShEnv.ok x) (n : Int) : (⟨pv :: ShEnv.enc x⟩ : Array Value).setIfInBounds 66 (.int .i64 n) = ⟨pv :: ShEnv.enc (x.game, x.no, x.tag, n, x.last, x.opened, ())⟩ := by
  rw [envForm, envForm]
  have := set_at (pre := pv :: (ShTag.enc x.game ++ (.int .i64 x.no :: ShTag.enc x.tag))) (post := ShMove.enc x.last ++ [.bool x.opened]) (v := .int .i64 x.state) (w := .int .i64 n) (n := 66) (by simp [lenTag ok.1, lenTag ok.2.2.1])
  simpa using this
theorem envSetLast (pv : Value) (x : EnvT) (ok : ShEnv.ok x) (mv : MoveT) : overA ⟨pv :: ShEnv.enc x⟩ 67 (ShMove.enc mv) = ⟨pv :: ShEnv.enc (x.game, x.no, x.tag, x.state, mv, x.opened, ())⟩ := by
  rw [envForm, envForm]
  have := over_at (pre := pv :: (ShTag.enc x.game ++ (.int .i64 x.no :: (ShTag.enc x.tag ++ [.int .i64 x.state])))) (mid := ShMove.enc x.last) (post := [.bool x.opened]) (new := ShMove.enc mv) (n := 67) (by simp [lenTag ok.1, lenTag ok.2.2.1]) (by rw [lenMove, lenMove])
  simpa using this
theorem envSetOpened (pv : Value) (x : EnvT) (ok : ShEnv.ok x) (b : Bool) : (⟨pv :: ShEnv.enc x⟩ : Array Value).setIfInBounds 70 (.bool b) = ⟨pv :: ShEnv.enc (x.game, x.no, x.tag, x.state, x.last, b, ())⟩ := by
  rw [envForm, envForm]
  have := set_at (pre := pv :: (ShTag.enc x.game ++ (.int .i64 x.no :: (ShTag.enc x.tag ++ (.int .i64 x.state :: ShMove.enc x.last))))) (post := []) (v := .bool x.opened) (w := .bool b) (n := 70) (by simp [lenTag ok.1, lenTag ok.2.2.1, lenMove])
  simpa using this
theorem envLen (pv : Value) {x : EnvT} (ok : ShEnv.ok x) : (⟨pv :: ShEnv.enc x⟩ : Array Value).size = 71 := by simp [Sh.enc_length (s := ShEnv) rfl ok]; rfl

/-! ### What is told -/
section
variable {g : GH} {c p pm : Nat} {x : EnvT}
theorem envMade_spec (e : EnvC g c p pm x) {R : Value → Heap → Prop} (H : R (.bool true) g.h) : HC Try.prog F.seal_Envelope_made #[.pointer (some ⟨p, 0, none⟩)] R g.h := by
  refine seal_Envelope_made.calls ?_
  unfold seal_Envelope_made.body
  rw [if_pos (by rfl), derefK_some, fldK_some]
  refine loadK_cells e.parts.state x.state (j := 0) rfl rfl ?_
  have := e.st
  rw [show (x.state != 0) = true from by simp; omega]
  exact H
theorem envState_spec (e : EnvC g c p pm x) {R : Value → Heap → Prop} (H : R (.int .i64 x.state) g.h) : HC Try.prog F.seal_Envelope_State #[.pointer (some ⟨p, 0, none⟩)] R g.h := by
  refine seal_Envelope_State.calls ?_
  unfold seal_Envelope_State.body
  refine envMade_spec e ⟨_, rfl, ?_⟩
  try dsimp only
  rw [if_neg (by simp), derefK_some, fldK_some]
  exact loadK_cells e.parts.state x.state (j := 0) rfl rfl H
def sealT (x : EnvT) : Int × List Int × Bool := if x.state = 1 then (0, zero32, false) else (x.no, x.tag, true)
theorem envSeal_spec (e : EnvC g c p pm x) {R : Value → Heap → Prop} (H : ∀ g' : GH, Mv [] g g' → R (.tuple #[.int .i64 (sealT x).1, .agg (tagA (sealT x).2.1), .bool (sealT x).2.2]) g'.h) : HC Try.prog F.seal_Envelope_Seal #[.pointer (some ⟨p, 0, none⟩)] R g.h := by
  refine seal_Envelope_Seal.calls ?_
  unfold seal_Envelope_Seal.body
  obtain ⟨y, hy, hyn⟩ := fresh_exists g [c]
  simp only [List.mem_cons, List.mem_nil_iff, or_false] at hyn
  have m := Mv.refl [y] g
  have re : ∀ k ∈ [y], k ∈ ([] : List Nat) ∨ Fresh g k := fun k hk => .inr (by simp only [List.mem_singleton] at hk; rw [hk]; exact hy)
  rw [zTag]
  refine new_C g y fun t q1 m1 bt => ?_
  replace m := m.step m1 (by simp)
  have e1 := e.mv m1 (by simp)
  refine envMade_spec e1 ⟨_, rfl, ?_⟩
  try dsimp only
  rw [if_neg (by simp), derefK_some, fldK_some]
  refine loadK_cells e1.parts.state x.state (j := 0) rfl rfl ?_
  unfold sealT at H
  by_cases h : x.state = 1
  · rw [if_pos (by simpa using h)]
    rw [if_pos h] at H
    have bt' : BlkC q1 y t (tagA zero32) T.api_Tag := bt
    refine loadAgg_whole bt' (tagA_size (by simp [zero32])) ?_
    refine result_C (n := 32) szTag dTag bt' (by simp [zero32]) (by simp [zero32]) (fun v hv => oneBy _ v hv) fun q2 m2 => ?_
    exact H (g.via q2 id) ((m.step m2 (by simp)).re id re)
  · rw [if_neg (by simpa using h)]
    rw [if_neg h] at H
    simp only [derefK_some, fldK_some]
    refine loadK_cells e1.parts.no x.no (j := 0) rfl rfl ?_
    refine loadTagAt (cellsTo e1.parts.tag (by omega)) e.ok.2.2.1 ?_
    have te : (⟨ShTag.enc x.tag⟩ : Array Value) = tagA x.tag := by rw [encTag]
    rw [te]
    refine result_C (n := 32) szTag dTag bt (by simp) (by simp [(okTagB e.ok.2.2.1).1]) (fun v hv => oneBy _ v hv) fun q2 m2 => ?_
    exact H (g.via q2 id) ((m.step m2 (by simp)).re id re)
theorem dMove (p : Option Addr) : doesLoad Try.prog T.api_Move (.pointer p) = .quietP fun h K => loadAggK (sizeOfT Try.prog T.api_Move) h p fun cs => K (.agg cs) := by kernel_rfl
theorem zMove : zerosOf Try.prog T.api_Move = ⟨ShMove.enc move0⟩ := by kernel_rfl
theorem oneMove (x : MoveT) : ∀ v ∈ (⟨ShMove.enc x⟩ : Array Value).toList, v.oneCell' = true := by
  intro v hv
  simp only [Sh.enc, List.mem_cons, List.mem_append, List.mem_nil_iff, or_false] at hv
  rcases hv with rfl | rfl | rfl <;> rfl
theorem envOpened_spec (e : EnvC g c p pm x) {R : Value → Heap → Prop} (H : ∀ g' : GH, Mv [] g g' → R (.tuple #[.agg ⟨ShMove.enc x.last⟩, .bool x.opened]) g'.h) : HC Try.prog F.seal_Envelope_Opened #[.pointer (some ⟨p, 0, none⟩)] R g.h := by
  refine seal_Envelope_Opened.calls ?_
  unfold seal_Envelope_Opened.body
  obtain ⟨y, hy, hyn⟩ := fresh_exists g [c]
  simp only [List.mem_cons, List.mem_nil_iff, or_false] at hyn
  have m := Mv.refl [y] g
  have re : ∀ k ∈ [y], k ∈ ([] : List Nat) ∨ Fresh g k := fun k hk => .inr (by simp only [List.mem_singleton] at hk; rw [hk]; exact hy)
  rw [zMove]
  refine new_C g y fun t q1 m1 bt => ?_
  replace m := m.step m1 (by simp)
  have e1 := e.mv m1 (by simp)
  refine envMade_spec e1 ⟨_, rfl, ?_⟩
  try dsimp only
  rw [if_neg (by simp)]
  simp only [derefK_some, fldK_some]
  refine loadMoveAt (cellsTo e1.parts.last (by omega)) ?_
  refine loadK_cells e1.parts.opened x.opened (j := 0) rfl rfl ?_
  refine storeAgg_C bt (by rw [szMove]; rfl) (by rw [szMove]; simp [Sh.enc]) (oneMove _) fun q2 m2 b2 => ?_
  replace m := m.step m2 (by simp)
  have e2 := e1.mv m2 (by simp [Ne.symm hyn])
  have b2' : BlkC q2 y t ⟨ShMove.enc x.last⟩ T.api_Move := by
    rw [overA_all (by simp [Sh.enc])] at b2
    exact b2
  refine ⟨stillK_cells e2.parts.opened (j := 0) rfl rfl, ?_⟩
  refine loadAt_agg (dMove _) ?_
  refine loadMoveAt (blkCells b2') ?_
  exact H (g.via q2 id) (m.re id re)
theorem envCopy_spec (e : EnvC g c p pm x) (d : Nat) {R : Value → Heap → Prop} (H : ∀ (p' : Nat) (g' : GH), Mv [] g g' → EnvC g' d p' pm x → R (.pointer (some ⟨p', 0, none⟩)) g'.h) : HC Try.prog F.seal_Envelope_Copy #[.pointer (some ⟨p, 0, none⟩)] R g.h := by
  refine seal_Envelope_Copy.calls ?_
  unfold seal_Envelope_Copy.body
  refine envMade_spec e ⟨_, rfl, ?_⟩
  try dsimp only
  rw [if_neg (by simp), derefK_some]
  have sz : sizeOfT Try.prog T.seal_Envelope = 71 := by kernel_rfl
  refine loadAgg_whole e.blk (by rw [sz]; exact (envLen _ e.ok).symm) ?_
  refine newStore_C g d (by rw [sz]; exact envLen _ e.ok) (by rw [sz]; kernel_rfl) (fun v hv => ?_) fun p' q1 m1 b1 => H p' q1 m1 ⟨b1, e.ok, e.st⟩
  rcases List.mem_cons.1 hv with rfl | hv
  · rfl
  · exact Sh.enc_one (s := ShEnv) rfl v hv
end

/-! ### What is done -/
theorem bldWax (m : Option Addr) (t : List Int) (ht : ShTag.ok t) (w : World) : (Instr.build T.seal_wax #[(0, .pointer m), (1, .agg (tagA t))]).run Try.prog w = .ok (.agg ⟨.pointer m :: (ShTag.enc t ++ (.int .i64 0 :: ShTag.enc zero32))⟩) w := by
  have te : tagA t = ⟨ShTag.enc t⟩ := by rw [encTag]
  rw [te]
  have h := build_segs (P := Try.prog) (t := T.seal_wax) (fs := structFs Try.prog T.seal_wax) (parts := #[(0, .pointer m), (1, .agg ⟨ShTag.enc t⟩)]) [[.pointer none], ShTag.enc zero32, [.int .i64 0], ShTag.enc zero32] (by kernel_rfl) (fun w => by kernel_rfl) (fun w => by kernel_rfl) (fun p hp => by
    simp only [List.mem_cons, List.mem_nil_iff, or_false] at hp
    rcases hp with rfl | rfl
    · exact ⟨_, rfl, rfl⟩
    · exact ⟨_, rfl, by show (ShTag.enc t).length = _; rw [lenTag ht, lenTag ok0]⟩) w
  rw [h]
  simp [Value.cells]
theorem bldEnv (m : Option Addr) (t : List Int) (ht : ShTag.ok t) (w : World) : (Instr.build T.seal_Envelope #[(0, .agg ⟨.pointer m :: (ShTag.enc t ++ (.int .i64 0 :: ShTag.enc zero32))⟩), (1, .int .i64 1)]).run Try.prog w = .ok (.agg ⟨.pointer m :: ShEnv.enc (t, 0, zero32, 1, move0, false, ())⟩) w := by
  have h := build_segs (P := Try.prog) (t := T.seal_Envelope) (fs := structFs Try.prog T.seal_Envelope) (parts := #[(0, .agg ⟨.pointer m :: (ShTag.enc t ++ (.int .i64 0 :: ShTag.enc zero32))⟩), (1, .int .i64 1)]) [.pointer none :: (ShTag.enc zero32 ++ (.int .i64 0 :: ShTag.enc zero32)), [.int .i64 0], ShMove.enc move0, [.bool false]] (by kernel_rfl) (fun w => by kernel_rfl) (fun w => by kernel_rfl) (fun p hp => by
    simp only [List.mem_cons, List.mem_nil_iff, or_false] at hp
    rcases hp with rfl | rfl
    · exact ⟨_, rfl, by show (Value.pointer m :: (ShTag.enc t ++ (.int .i64 0 :: ShTag.enc zero32))).length = _; simp [lenTag ht, lenTag ok0]⟩
    · exact ⟨_, rfl, rfl⟩) w
  rw [h, envForm]
  simp [Value.cells, Sh.enc]
theorem envNew_spec {g : GH} {c k pm : Nat} {real : Bool} {seed : List Int} {asked : List ShThing.T} (xm : MakC g c k pm real seed asked) (game : List Int) (okg : ShTag.ok game) (d : Nat) {R : Value → Heap → Prop}
    (H : ∀ (p : Nat) (g' : GH), Mv [] g g' → EnvC g' d p pm (game, 0, zero32, 1, move0, false, ()) → R (.tuple #[.pointer (some ⟨p, 0, none⟩), .int .i64 0]) g'.h) :
    HC Try.prog F.seal_New #[.pointer (some ⟨pm, 0, none⟩), .agg (tagA game)] R g.h := by
  refine seal_New.calls ?_
  unfold seal_New.body
  have hgb := okTagB okg
  obtain ⟨y, hy, hyn⟩ := fresh_exists g [c, k]
  simp only [List.mem_cons, List.mem_nil_iff, or_false, not_or] at hyn
  refine new_C g 0 fun t q1 m1 bt => ?_
  refine makCopy_spec (xm.mv m1 (by simp) (by simp)) 0 0 fun p' q2 m2 _ => ⟨some ⟨p', 0, none⟩, rfl, ?_⟩
  try dsimp only
  rw [if_neg (by simp)]
  refine loadAgg_whole (bt.mv m2 (by simp)) (tagA_size hgb.1) ?_
  refine ⟨_, bldWax _ game okg, ?_⟩
  refine ⟨_, bldEnv _ game okg, ?_⟩
  have ok : ShEnv.ok (game, 0, zero32, 1, move0, false, ()) := okEnv okg (by decide) ok0 (by decide) okMove0
  refine new_C q2 d fun p q3 m3 b3 => ?_
  exact H p q3 ((m1.step m2 (L := []) (by simp)).step m3 (by simp)) ⟨b3, ok, (show (1 : Int) ≤ 1 ∧ (1 : Int) ≤ 3 by decide)⟩

theorem envPut_spec {g : GH} {c p pm : Nat} {x : EnvT} (e : EnvC g c p pm x) (n : Int) (hn : -9223372036854775808 ≤ n ∧ n ≤ 9223372036854775807) (t : List Int) (okt : ShTag.ok t) {R : Value → Heap → Prop}
    (H : ∀ g' : GH, Mv [c] g g' → EnvC g' c p pm (x.game, n, t, x.state, x.last, x.opened, ()) → R (.tuple #[]) g'.h) : HC Try.prog F.seal_wax_put #[.pointer (some ⟨p, 0, none⟩), .int .i64 n, .agg (tagA t)] R g.h := by
  refine seal_wax_put.calls ?_
  unfold seal_wax_put.body
  have htb := okTagB okt
  obtain ⟨y, hy, hyn⟩ := fresh_exists g [c]
  simp only [List.mem_cons, List.mem_nil_iff, or_false] at hyn
  have m := Mv.refl [c, y] g
  refine new_C g y fun pt q1 m1 bt => ?_
  replace m := m.step m1 (by simp)
  have e1 := e.mv m1 (by simp)
  simp only [derefK_some, fldK_some]
  refine loadAgg_whole bt (tagA_size htb.1) ?_
  refine store_C e1.blk (by rw [envLen _ e.ok]; decide) rfl fun q2 m2 b2 => ?_
  rw [envSetNo _ _ e.ok] at b2
  replace m := m.step m2 (by simp)
  refine ⟨stillAgg_whole (bt.mv m2 (by simp [hyn])) (tagA_size htb.1), ?_⟩
  have ok2 : ShEnv.ok (x.game, n, x.tag, x.state, x.last, x.opened, ()) := okEnv e.ok.1 hn e.ok.2.2.1 e.st e.ok.2.2.2.2.1
  refine storeAgg_C b2 (by rw [szTag]; simp [htb.1]) (by rw [envLen _ ok2, szTag]; decide) (fun v hv => oneBy _ v hv) fun q3 m3 b3 => ?_
  replace m := m.step m3 (by simp)
  have tl : (tagA t).toList = ShTag.enc t := by rw [encTag]
  rw [tl] at b3
  have b3' := (envSetTag (.pointer (some ⟨pm, 0, none⟩)) _ ok2 t okt) ▸ b3
  have ok3 : ShEnv.ok (x.game, n, t, x.state, x.last, x.opened, ()) := okEnv e.ok.1 hn okt e.st e.ok.2.2.2.2.1
  exact H (g.via q3 id) (m.re id fun k hk => by
    simp only [List.mem_cons, List.mem_nil_iff, or_false] at hk
    rcases hk with rfl | rfl
    · exact .inl (by simp)
    · exact .inr hy) (EnvC.re (φ := id) ⟨b3', ok3, e.st⟩ m (.inl rfl))

def does24 (x : EnvT) (e : EntryT) : EnvT :=
  if e.what.say = 5 then (x.game, e.number, e.what.sealed, 2, x.last, x.opened, ())
  else if e.what.say = 6 then (x.game, x.no, x.tag, 3, x.last, x.opened, ())
  else if e.what.say = 7 then (x.game, 0, zero32, 1, e.what.move, true, ())
  else x
theorem envSealed_spec {g : GH} {c p pm : Nat} {x : EnvT} (v : EnvC g c p pm x) (e : EntryT) (ok : ShEntry.ok e) {R : Value → Heap → Prop} (H : ∀ g' : GH, Mv [c] g g' → EnvC g' c p pm (x.game, e.number, e.what.sealed, 2, x.last, x.opened, ()) → R (.tuple #[]) g'.h) :
    HC Try.prog F.seal_Envelope_sealed #[.pointer (some ⟨p, 0, none⟩), .agg ⟨ShEntry.enc e⟩] R g.h := by
  refine seal_Envelope_sealed.calls ?_
  unfold seal_Envelope_sealed.body
  obtain ⟨y, hy, hyn⟩ := fresh_exists g [c]
  simp only [List.mem_cons, List.mem_nil_iff, or_false] at hyn
  have m := Mv.refl [c, y] g
  refine new_C g y fun pe q1 m1 be => ?_
  replace m := m.step m1 (by simp)
  have v1 := v.mv m1 (by simp)
  simp only [derefK_some, fldK_some]
  refine store_C v1.blk (by rw [envLen _ v.ok]; decide) rfl fun q2 m2 b2 => ?_
  rw [envSetState _ _ v.ok] at b2
  replace m := m.step m2 (by simp)
  have E := entryAt ok (blkCells (be.mv m2 (by simp [hyn])))
  have B := bodyAt ok.2.2.2.1 E.what
  refine loadK_cells E.number e.number (j := 0) rfl rfl ?_
  refine loadTagAt (cellsTo B.sealed (by omega)) ok.2.2.2.1.2.2.2.2.1 ?_
  have te : (⟨ShTag.enc e.what.sealed⟩ : Array Value) = tagA e.what.sealed := by rw [encTag]
  rw [te]
  have ok2 : ShEnv.ok (x.game, x.no, x.tag, 2, x.last, x.opened, ()) := okEnv v.ok.1 v.ok.2.1 v.ok.2.2.1 (by decide) v.ok.2.2.2.2.1
  refine envPut_spec (⟨b2, ok2, (show (1 : Int) ≤ 2 ∧ (2 : Int) ≤ 3 by decide)⟩ : EnvC q2 c p pm (x.game, x.no, x.tag, 2, x.last, x.opened, ())) e.number ok.2.1 e.what.sealed ok.2.2.2.1.2.2.2.2.1 fun q3 m3 v3 => ⟨(), rfl, ?_⟩
  replace m := m.step m3 (by simp)
  exact H (g.via q3 id) (m.re id fun k hk => by
    simp only [List.mem_cons, List.mem_nil_iff, or_false] at hk
    rcases hk with rfl | rfl
    · exact .inl (by simp)
    · exact .inr hy) (v3.re (φ := id) m (.inl rfl))
theorem envResumed_spec {g : GH} {c p pm : Nat} {x : EnvT} (v : EnvC g c p pm x) (a : Array Value) {R : Value → Heap → Prop} (H : ∀ g' : GH, Mv [c] g g' → EnvC g' c p pm (x.game, x.no, x.tag, 3, x.last, x.opened, ()) → R (.tuple #[]) g'.h) :
    HC Try.prog F.seal_Envelope_resumed #[.pointer (some ⟨p, 0, none⟩), .agg a] R g.h := by
  refine seal_Envelope_resumed.calls ?_
  unfold seal_Envelope_resumed.body
  refine new_C g (c + 1) fun pe q1 m1 be => ?_
  have v1 := v.mv m1 (by simp)
  simp only [derefK_some, fldK_some]
  refine store_C v1.blk (by rw [envLen _ v.ok]; decide) rfl fun q2 m2 b2 => ?_
  rw [envSetState _ _ v.ok] at b2
  have ok2 : ShEnv.ok (x.game, x.no, x.tag, 3, x.last, x.opened, ()) := okEnv v.ok.1 v.ok.2.1 v.ok.2.2.1 (by decide) v.ok.2.2.2.2.1
  exact H q2 (m1.then m2 (by simp)) ⟨b2, ok2, (show (1 : Int) ≤ 3 ∧ (3 : Int) ≤ 3 by decide)⟩
theorem envPlain_spec {g : GH} (v : Option Addr) (a : Array Value) {R : Value → Heap → Prop} (H : ∀ g' : GH, Mv [] g g' → R (.tuple #[]) g'.h) : HC Try.prog F.seal_Envelope_plain #[.pointer v, .agg a] R g.h := by
  refine seal_Envelope_plain.calls ?_
  unfold seal_Envelope_plain.body
  exact new_C g 0 fun pe q1 m1 be => H q1 m1
theorem envOpens_spec {g : GH} {c p pm : Nat} {x : EnvT} (v : EnvC g c p pm x) (e : EntryT) (ok : ShEntry.ok e) {R : Value → Heap → Prop} (H : ∀ g' : GH, Mv [c] g g' → EnvC g' c p pm (x.game, 0, zero32, 1, e.what.move, true, ()) → R (.tuple #[]) g'.h) :
    HC Try.prog F.seal_Envelope_opens #[.pointer (some ⟨p, 0, none⟩), .agg ⟨ShEntry.enc e⟩] R g.h := by
  refine seal_Envelope_opens.calls ?_
  unfold seal_Envelope_opens.body
  obtain ⟨y, hy, hyn⟩ := fresh_exists g [c]
  simp only [List.mem_cons, List.mem_nil_iff, or_false] at hyn
  have m := Mv.refl [c, y] g
  refine new_C g y fun pe q1 m1 be => ?_
  replace m := m.step m1 (by simp)
  have v1 := v.mv m1 (by simp)
  simp only [derefK_some, fldK_some]
  have E := entryAt ok (blkCells be)
  have B := bodyAt ok.2.2.2.1 E.what
  have okm := ok.2.2.2.1.2.1
  refine loadMoveAt (cellsTo B.move (by omega)) ?_
  refine store_C v1.blk (by rw [envLen _ v.ok]; decide) rfl fun q2 m2 b2 => ?_
  rw [envSetState _ _ v.ok] at b2
  replace m := m.step m2 (by simp)
  have E2 := entryAt ok (blkCells (be.mv m2 (by simp [hyn])))
  have B2 := bodyAt ok.2.2.2.1 E2.what
  refine ⟨loadMoveAt (cellsTo B2.move (by omega)) rfl, ?_⟩
  have ok2 : ShEnv.ok (x.game, x.no, x.tag, 1, x.last, x.opened, ()) := okEnv v.ok.1 v.ok.2.1 v.ok.2.2.1 (by decide) v.ok.2.2.2.2.1
  refine storeAgg_C b2 (by rw [szMove]; rfl) (by rw [envLen _ ok2, szMove]; decide) (oneMove _) fun q3 m3 b3 => ?_
  replace m := m.step m3 (by simp)
  have b3' := (envSetLast (.pointer (some ⟨pm, 0, none⟩)) _ ok2 e.what.move) ▸ b3
  have ok3 : ShEnv.ok (x.game, x.no, x.tag, 1, e.what.move, x.opened, ()) := okEnv v.ok.1 v.ok.2.1 v.ok.2.2.1 (by decide) okm
  refine store_C b3' (by rw [envLen _ ok3]; decide) rfl fun q4 m4 b4 => ?_
  rw [envSetOpened _ _ ok3] at b4
  replace m := m.step m4 (by simp)
  have ok4 : ShEnv.ok (x.game, x.no, x.tag, 1, e.what.move, true, ()) := okEnv v.ok.1 v.ok.2.1 v.ok.2.2.1 (by decide) okm
  refine ⟨tagA zero32, fun w => by kernel_rfl, ?_⟩
  refine envPut_spec (⟨b4, ok4, (show (1 : Int) ≤ 1 ∧ (1 : Int) ≤ 3 by decide)⟩ : EnvC q4 c p pm (x.game, x.no, x.tag, 1, e.what.move, true, ())) 0 (by decide) zero32 ok0 fun q5 m5 v5 => ⟨(), rfl, ?_⟩
  replace m := m.step m5 (by simp)
  exact H (g.via q5 id) (m.re id fun k hk => by
    simp only [List.mem_cons, List.mem_nil_iff, or_false] at hk
    rcases hk with rfl | rfl
    · exact .inl (by simp)
    · exact .inr hy) (v5.re (φ := id) m (.inl rfl))

end Go.Proofs.Ytejjeggaofpbiaa
