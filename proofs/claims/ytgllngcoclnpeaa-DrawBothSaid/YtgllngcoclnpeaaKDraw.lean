/-
  Draws.
-/
import Derived.Test.YtgllngcoclnpeaaKTells22
import Derived.Test.YtgllngcoclnpeaaKMsg
import Derived.Test.YtgllngcoclnpeaaSegs
import Derived.Test.YtgllngcoclnpeaaMaps
set_option linter.unusedSimpArgs false
set_option linter.unusedVariables false
namespace Go.Proofs.Ytgllngcoclnpeaa
open Go Go.Ev

abbrev ShDrw : Sh := .pair ShTag (.pair (.int .i64) (.pair (.int .i64) (.pair ShTag (.pair ShTag (.pair ShTag (.pair (.int .i64) (.pair .bool (.pair (.int .i64) .unit))))))))
abbrev DrwT := List Int × Int × Int × List Int × List Int × List Int × Int × Bool × Int × Unit
abbrev DrwT.game (x : DrwT) : List Int := x.1
abbrev DrwT.player (x : DrwT) : Int := x.2.1
abbrev DrwT.bit (x : DrwT) : Int := x.2.2.1
abbrev DrwT.nonce (x : DrwT) : List Int := x.2.2.2.1
abbrev DrwT.tag (x : DrwT) : List Int := x.2.2.2.2.1
abbrev DrwT.theirs (x : DrwT) : List Int := x.2.2.2.2.2.1
abbrev DrwT.toss (x : DrwT) : Int := x.2.2.2.2.2.2.1
abbrev DrwT.given (x : DrwT) : Bool := x.2.2.2.2.2.2.2.1
abbrev DrwT.phase (x : DrwT) : Int := x.2.2.2.2.2.2.2.2.1
structure DrwC (g : GH) (c p pm : Nat) (x : DrwT) : Prop where
  blk : BlkC g c p ⟨.pointer (some ⟨pm, 0, none⟩) :: ShDrw.enc x⟩ T.draw_Draw
  ok : ShDrw.ok x
  ph : 1 ≤ x.phase ∧ x.phase ≤ 4
theorem DrwC.mv {K : List Nat} {g g' : GH} {c p pm : Nat} {x : DrwT} (e : DrwC g c p pm x) (m : Mv K g g') (h : c ∉ K) : DrwC g' c p pm x := ⟨e.blk.mv m h, e.ok, e.ph⟩
theorem DrwC.re {K : List Nat} {g q : GH} {c p pm : Nat} {x : DrwT} (e : DrwC q c p pm x) (m : Mv K g q) {φ : Nat → Nat} (h : φ c = c ∨ Fresh g c) : DrwC (g.via q φ) (φ c) p pm x := ⟨e.blk.re m h, e.ok, e.ph⟩
theorem drwI64 {n : Int} (h : 1 ≤ n ∧ n ≤ 4) : -9223372036854775808 ≤ n ∧ n ≤ 9223372036854775807 := by omega
structure DrwAt (g : GH) (c p pm : Nat) (x : DrwT) : Prop where
  maker : CellsC g c p 0 [.pointer (some ⟨pm, 0, none⟩)]
  game : CellsC g c p 1 (ShTag.enc x.game)
  player : CellsC g c p 33 [.int .i64 x.player]
  bit : CellsC g c p 34 [.int .i64 x.bit]
  nonce : CellsC g c p 35 (ShTag.enc x.nonce)
  tag : CellsC g c p 67 (ShTag.enc x.tag)
  theirs : CellsC g c p 99 (ShTag.enc x.theirs)
  toss : CellsC g c p 131 [.int .i64 x.toss]
  given : CellsC g c p 132 [.bool x.given]
  phase : CellsC g c p 133 [.int .i64 x.phase]
theorem DrwC.parts {g : GH} {c p pm : Nat} {x : DrwT} (e : DrwC g c p pm x) : DrwAt g c p pm x := by
  have h0 : CellsC g c p 0 ([.pointer (some ⟨pm, 0, none⟩)] ++ ShDrw.enc x) := blkCells e.blk
  have h1 := cellsSnd (n := 1) h0 rfl
  have h2 := cellsSnd (n := 32) h1 (lenTag e.ok.1)
  have h3 := cellsSnd (n := 1) h2 rfl
  have h4 := cellsSnd (n := 1) h3 rfl
  have h5 := cellsSnd (n := 32) h4 (lenTag e.ok.2.2.2.1)
  have h6 := cellsSnd (n := 32) h5 (lenTag e.ok.2.2.2.2.1)
  have h7 := cellsSnd (n := 32) h6 (lenTag e.ok.2.2.2.2.2.1)
  have h8 := cellsSnd (n := 1) h7 rfl
  have h9 := cellsSnd (n := 1) h8 rfl
  exact ⟨cellsFst h0, cellsTo (cellsFst h1) (by omega), cellsTo (cellsFst h2) (by omega), cellsTo (cellsFst h3) (by omega), cellsTo (cellsFst h4) (by omega), cellsTo (cellsFst h5) (by omega), cellsTo (cellsFst h6) (by omega), cellsTo (cellsFst h7) (by omega), cellsTo (cellsFst h8) (by omega), cellsTo (cellsFst h9) (by omega)⟩

/-! ### Parts written -/
def drwSegs (pv : Value) (x : DrwT) : List (List Value) := [[pv], ShTag.enc x.game, [.int .i64 x.player], [.int .i64 x.bit], ShTag.enc x.nonce, ShTag.enc x.tag, ShTag.enc x.theirs, [.int .i64 x.toss], [.bool x.given], [.int .i64 x.phase]]
theorem drwForm (pv : Value) (x : DrwT) : (pv :: ShDrw.enc x) = (drwSegs pv x).flatten := by simp [Sh.enc, drwSegs]
theorem drwLen (pv : Value) {x : DrwT} (ok : ShDrw.ok x) : (⟨pv :: ShDrw.enc x⟩ : Array Value).size = 134 := by simp [Sh.enc_length (s := ShDrw) rfl ok]; rfl
theorem drwSetTheirs (pv : Value) (x : DrwT) (ok : ShDrw.ok x) (t : List Int) (ht : ShTag.ok t) : overA ⟨pv :: ShDrw.enc x⟩ 99 (ShTag.enc t) = ⟨pv :: ShDrw.enc (x.game, x.player, x.bit, x.nonce, x.tag, t, x.toss, x.given, x.phase, ())⟩ := by
  rw [drwForm, drwForm]
  have := seg_over (drwSegs pv x) 6 (ShTag.enc x.theirs) (ShTag.enc t) rfl (by rw [lenTag ht, lenTag ok.2.2.2.2.2.1])
  rw [show ((drwSegs pv x).take 6).flatten.length = 99 from by simp [drwSegs, lenTag ok.1, lenTag ok.2.2.2.1, lenTag ok.2.2.2.2.1]] at this
  exact this
theorem overA_single {cells : Array Value} {o : Nat} {v : Value} (h : o < cells.size) : overA cells o [v] = cells.setIfInBounds o v := by
  obtain ⟨l⟩ := cells
  have h' : o < l.length := by simpa using h
  unfold overA
  rw [List.setIfInBounds_toArray, List.set_eq_take_append_cons_drop, if_pos h']
  simp
theorem drwSetToss (pv : Value) (x : DrwT) (ok : ShDrw.ok x) (n : Int) : (⟨pv :: ShDrw.enc x⟩ : Array Value).setIfInBounds 131 (.int .i64 n) = ⟨pv :: ShDrw.enc (x.game, x.player, x.bit, x.nonce, x.tag, x.theirs, n, x.given, x.phase, ())⟩ := by
  rw [← overA_single (by rw [drwLen pv ok]; decide), drwForm, drwForm]
  have := seg_over (drwSegs pv x) 7 [.int .i64 x.toss] [.int .i64 n] rfl rfl
  rw [show ((drwSegs pv x).take 7).flatten.length = 131 from by simp [drwSegs, lenTag ok.1, lenTag ok.2.2.2.1, lenTag ok.2.2.2.2.1, lenTag ok.2.2.2.2.2.1]] at this
  exact this
theorem drwSetGiven (pv : Value) (x : DrwT) (ok : ShDrw.ok x) (b : Bool) : (⟨pv :: ShDrw.enc x⟩ : Array Value).setIfInBounds 132 (.bool b) = ⟨pv :: ShDrw.enc (x.game, x.player, x.bit, x.nonce, x.tag, x.theirs, x.toss, b, x.phase, ())⟩ := by
  rw [← overA_single (by rw [drwLen pv ok]; decide), drwForm, drwForm]
  have := seg_over (drwSegs pv x) 8 [.bool x.given] [.bool b] rfl rfl
  rw [show ((drwSegs pv x).take 8).flatten.length = 132 from by simp [drwSegs, lenTag ok.1, lenTag ok.2.2.2.1, lenTag ok.2.2.2.2.1, lenTag ok.2.2.2.2.2.1]] at this
  exact this
theorem drwSetPhase (pv : Value) (x : DrwT) (ok : ShDrw.ok x) (n : Int) : (⟨pv :: ShDrw.enc x⟩ : Array Value).setIfInBounds 133 (.int .i64 n) = ⟨pv :: ShDrw.enc (x.game, x.player, x.bit, x.nonce, x.tag, x.theirs, x.toss, x.given, n, ())⟩ := by
  rw [← overA_single (by rw [drwLen pv ok]; decide), drwForm, drwForm]
  have := seg_over (drwSegs pv x) 9 [.int .i64 x.phase] [.int .i64 n] rfl rfl
  rw [show ((drwSegs pv x).take 9).flatten.length = 133 from by simp [drwSegs, lenTag ok.1, lenTag ok.2.2.2.1, lenTag ok.2.2.2.2.1, lenTag ok.2.2.2.2.2.1]] at this
  exact this

/-! ### What is told -/
def xorT (a b : Int) : Int := IntKind.i64.wrap (BitVec.ofInt (IntKind.bits .i64) a ^^^ BitVec.ofInt (IntKind.bits .i64) b).toNat
def whiteT (x : DrwT) : Int × Bool := if ¬ x.phase = 3 then (0, false) else (xorT x.bit x.toss, true)
def sideT (x : DrwT) : Int × Bool := (if (whiteT x).2 = true ∧ ¬ (whiteT x).1 = x.player then 1 else 0, (whiteT x).2)
def hiddenT (x : DrwT) : MsgT := (1, x.game, x.player, x.tag, 0, zero32, entry0, ())
def openT23 (x : DrwT) : MsgT := (2, x.game, x.player, zero32, x.bit, x.nonce, entry0, ())
def abortT23 (x : DrwT) : MsgT := (4, x.game, x.player, zero32, 0, zero32, entry0, ())
def sayT23 (x : DrwT) : List MsgT := if x.given = true then [] else if x.phase = 4 then [abortT23 x] else if x.phase = 1 then [hiddenT x] else [hiddenT x, openT23 x]
section
variable {g : GH} {c p pm : Nat} {x : DrwT}
theorem drwMade_spec (e : DrwC g c p pm x) {R : Value → Heap → Prop} (H : R (.bool true) g.h) : HC Try.prog F.draw_Draw_made #[.pointer (some ⟨p, 0, none⟩)] R g.h := by
  refine draw_Draw_made.calls ?_
  unfold draw_Draw_made.body
  rw [if_pos (by rfl), derefK_some, fldK_some]
  refine loadK_cells e.parts.phase x.phase (j := 0) (k := .int .i64) rfl rfl ?_
  have := e.ph
  rw [show (x.phase != 0) = true from by simp; omega]
  exact H
theorem drwPhase_spec (e : DrwC g c p pm x) {R : Value → Heap → Prop} (H : R (.int .i64 x.phase) g.h) : HC Try.prog F.draw_Draw_Phase #[.pointer (some ⟨p, 0, none⟩)] R g.h := by
  refine draw_Draw_Phase.calls ?_
  unfold draw_Draw_Phase.body
  refine drwMade_spec e ⟨_, rfl, ?_⟩
  try dsimp only
  rw [if_neg (by simp), derefK_some, fldK_some]
  exact loadK_cells e.parts.phase x.phase (j := 0) (k := .int .i64) rfl rfl H
theorem drwWhite_spec (e : DrwC g c p pm x) {R : Value → Heap → Prop} (H : R (.tuple #[.int .i64 (whiteT x).1, .bool (whiteT x).2]) g.h) : HC Try.prog F.draw_Draw_White #[.pointer (some ⟨p, 0, none⟩)] R g.h := by
  refine draw_Draw_White.calls ?_
  unfold draw_Draw_White.body
  refine drwPhase_spec e ⟨_, rfl, ?_⟩
  try dsimp only
  unfold whiteT at H
  by_cases h : x.phase = 3
  · rw [if_neg (by simpa using h)]
    rw [if_neg (by simpa using h)] at H
    simp only [derefK_some, fldK_some]
    refine loadK_cells e.parts.bit x.bit (j := 0) (k := .int .i64) rfl rfl ?_
    refine loadK_cells e.parts.toss x.toss (j := 0) (k := .int .i64) rfl rfl ?_
    exact H
  · rw [if_pos (by simpa using h)]
    rw [if_pos (by simpa using h)] at H
    exact H
theorem drwSide_spec (e : DrwC g c p pm x) {R : Value → Heap → Prop} (H : R (.tuple #[.int .i64 (sideT x).1, .bool (sideT x).2]) g.h) : HC Try.prog F.draw_Draw_Side #[.pointer (some ⟨p, 0, none⟩)] R g.h := by
  refine draw_Draw_Side.calls ?_
  unfold draw_Draw_Side.body
  refine drwWhite_spec e ⟨((whiteT x).1, (whiteT x).2), rfl, ?_⟩
  try dsimp only
  unfold sideT at H
  dsimp only at H
  by_cases h : (whiteT x).2 = true
  · rw [if_pos h]
    simp only [derefK_some, fldK_some]
    refine loadK_cells e.parts.player x.player (j := 0) (k := .int .i64) rfl rfl ?_
    by_cases hp : (whiteT x).1 = x.player
    · rw [if_neg (by simpa using hp)]
      rw [if_neg (by simp [hp])] at H
      exact H
    · rw [if_pos (by simpa using hp)]
      rw [if_pos ⟨h, hp⟩] at H
      exact H
  · rw [if_neg h]
    rw [if_neg (by simp [h])] at H
    exact H
theorem okHidden (ok : ShDrw.ok x) : ShMsg.ok (hiddenT x) := ⟨okI (show -9223372036854775808 ≤ (1 : Int) ∧ (1 : Int) ≤ 9223372036854775807 by decide), ok.1, ok.2.1, ok.2.2.2.2.1, okI0, ok0, okEntry0, trivial⟩
theorem okOpen23 (ok : ShDrw.ok x) : ShMsg.ok (openT23 x) := ⟨okI (show -9223372036854775808 ≤ (2 : Int) ∧ (2 : Int) ≤ 9223372036854775807 by decide), ok.1, ok.2.1, ok0, ok.2.2.1, ok.2.2.2.1, okEntry0, trivial⟩
theorem okAbort23 (ok : ShDrw.ok x) : ShMsg.ok (abortT23 x) := ⟨okI (show -9223372036854775808 ≤ (4 : Int) ∧ (4 : Int) ≤ 9223372036854775807 by decide), ok.1, ok.2.1, ok0, okI0, ok0, okEntry0, trivial⟩
theorem msgSegs : (⟨ShMsg.enc msg0⟩ : Array Value) = ⟨([[.int .i64 0], ShTag.enc zero32, [.int .i64 0], ShTag.enc zero32, [.int .i64 0], ShTag.enc zero32, ShEntry.enc entry0] : List (List Value)).flatten⟩ := by simp [Sh.enc]
theorem bldMsg_1 (game : List Int) (okg : ShTag.ok game) (n : Int) (t : List Int) (okt : ShTag.ok t) (w : World) : (Instr.build T.api_Msg #[(0, .int .i64 1), (1, .agg ⟨ShTag.enc game⟩), (2, .int .i64 n), (3, .agg ⟨ShTag.enc t⟩)]).run Try.prog w = .ok (.agg ⟨ShMsg.enc (1, game, n, t, 0, zero32, entry0, ())⟩) w := by
  have h := build_segs (P := Try.prog) (t := T.api_Msg) (fs := structFs Try.prog T.api_Msg) (parts := #[(0, .int .i64 1), (1, .agg ⟨ShTag.enc game⟩), (2, .int .i64 n), (3, .agg ⟨ShTag.enc t⟩)]) [[.int .i64 0], ShTag.enc zero32, [.int .i64 0], ShTag.enc zero32, [.int .i64 0], ShTag.enc zero32, ShEntry.enc entry0] (by kernel_rfl) (fun w => by kernel_rfl) (fun w => by kernel_rfl) (fun p hp => by
    simp only [List.mem_cons, List.mem_nil_iff, or_false] at hp
    rcases hp with rfl | rfl | rfl | rfl
    · exact ⟨_, rfl, rfl⟩
    · exact ⟨_, rfl, by show (ShTag.enc game).length = _; rw [lenTag okg, lenTag ok0]⟩
    · exact ⟨_, rfl, rfl⟩
    · exact ⟨_, rfl, by show (ShTag.enc t).length = _; rw [lenTag okt, lenTag ok0]⟩) w
  rw [h]
  simp [Value.cells, Sh.enc]
theorem bldMsg_2 (game : List Int) (okg : ShTag.ok game) (n b : Int) (t : List Int) (okt : ShTag.ok t) (w : World) : (Instr.build T.api_Msg #[(0, .int .i64 2), (1, .agg ⟨ShTag.enc game⟩), (2, .int .i64 n), (4, .int .i64 b), (5, .agg ⟨ShTag.enc t⟩)]).run Try.prog w = .ok (.agg ⟨ShMsg.enc (2, game, n, zero32, b, t, entry0, ())⟩) w := by
  have h := build_segs (P := Try.prog) (t := T.api_Msg) (fs := structFs Try.prog T.api_Msg) (parts := #[(0, .int .i64 2), (1, .agg ⟨ShTag.enc game⟩), (2, .int .i64 n), (4, .int .i64 b), (5, .agg ⟨ShTag.enc t⟩)]) [[.int .i64 0], ShTag.enc zero32, [.int .i64 0], ShTag.enc zero32, [.int .i64 0], ShTag.enc zero32, ShEntry.enc entry0] (by kernel_rfl) (fun w => by kernel_rfl) (fun w => by kernel_rfl) (fun p hp => by
    simp only [List.mem_cons, List.mem_nil_iff, or_false] at hp
    rcases hp with rfl | rfl | rfl | rfl | rfl
    · exact ⟨_, rfl, rfl⟩
    · exact ⟨_, rfl, by show (ShTag.enc game).length = _; rw [lenTag okg, lenTag ok0]⟩
    · exact ⟨_, rfl, rfl⟩
    · exact ⟨_, rfl, rfl⟩
    · exact ⟨_, rfl, by show (ShTag.enc t).length = _; rw [lenTag okt, lenTag ok0]⟩) w
  rw [h]
  simp [Value.cells, Sh.enc]
theorem bldMsg_4 (game : List Int) (okg : ShTag.ok game) (n : Int) (w : World) : (Instr.build T.api_Msg #[(0, .int .i64 4), (1, .agg ⟨ShTag.enc game⟩), (2, .int .i64 n)]).run Try.prog w = .ok (.agg ⟨ShMsg.enc (4, game, n, zero32, 0, zero32, entry0, ())⟩) w := by
  have h := build_segs (P := Try.prog) (t := T.api_Msg) (fs := structFs Try.prog T.api_Msg) (parts := #[(0, .int .i64 4), (1, .agg ⟨ShTag.enc game⟩), (2, .int .i64 n)]) [[.int .i64 0], ShTag.enc zero32, [.int .i64 0], ShTag.enc zero32, [.int .i64 0], ShTag.enc zero32, ShEntry.enc entry0] (by kernel_rfl) (fun w => by kernel_rfl) (fun w => by kernel_rfl) (fun p hp => by
    simp only [List.mem_cons, List.mem_nil_iff, or_false] at hp
    rcases hp with rfl | rfl | rfl
    · exact ⟨_, rfl, rfl⟩
    · exact ⟨_, rfl, by show (ShTag.enc game).length = _; rw [lenTag okg, lenTag ok0]⟩
    · exact ⟨_, rfl, rfl⟩) w
  rw [h]
  simp [Value.cells, Sh.enc]
theorem oneMsg23 {x : MsgT} : ∀ v ∈ (⟨ShMsg.enc x⟩ : Array Value).toList, v.oneCell' = true := fun v hv => Sh.enc_one (s := ShMsg) rfl v hv
theorem drwHidden_spec (e : DrwC g c p pm x) {R : Value → Heap → Prop} (H : ∀ g' : GH, Mv [] g g' → R (.agg ⟨ShMsg.enc (hiddenT x)⟩) g'.h) : HC Try.prog F.draw_coin_hidden #[.pointer (some ⟨p, 0, none⟩)] R g.h := by
  refine draw_coin_hidden.calls ?_
  unfold draw_coin_hidden.body
  obtain ⟨y, hy, hyn⟩ := fresh_exists g [c]
  simp only [List.mem_cons, List.mem_nil_iff, or_false] at hyn
  have m := Mv.refl [y] g
  have re : ∀ k ∈ [y], k ∈ ([] : List Nat) ∨ Fresh g k := fun k hk => .inr (by simp only [List.mem_singleton] at hk; rw [hk]; exact hy)
  rw [zMsg]
  refine new_C g y fun t q1 m1 bt => ?_
  replace m := m.step m1 (by simp)
  have P := (e.mv m1 (by simp)).parts
  simp only [derefK_some, fldK_some]
  refine loadTagAt (cellsTo P.game (by omega)) e.ok.1 ?_
  refine loadK_cells P.player x.player (j := 0) (k := .int .i64) rfl rfl ?_
  refine loadTagAt (cellsTo P.tag (by omega)) e.ok.2.2.2.2.1 ?_
  refine ⟨_, bldMsg_1 _ e.ok.1 _ _ e.ok.2.2.2.2.1, ?_⟩
  refine result_C (n := 234) szMsg dMsg bt (by simpa using lenMsg okMsg0) (by show (ShMsg.enc (hiddenT x)).length = 234; exact lenMsg (okHidden e.ok)) oneMsg23 fun q2 m2 => ?_
  exact H (g.via q2 id) ((m.step m2 (by simp)).re id re)
theorem drwOpen_spec (e : DrwC g c p pm x) {R : Value → Heap → Prop} (H : ∀ g' : GH, Mv [] g g' → R (.agg ⟨ShMsg.enc (openT23 x)⟩) g'.h) : HC Try.prog F.draw_coin_open #[.pointer (some ⟨p, 0, none⟩)] R g.h := by
  refine draw_coin_open.calls ?_
  unfold draw_coin_open.body
  obtain ⟨y, hy, hyn⟩ := fresh_exists g [c]
  simp only [List.mem_cons, List.mem_nil_iff, or_false] at hyn
  have m := Mv.refl [y] g
  have re : ∀ k ∈ [y], k ∈ ([] : List Nat) ∨ Fresh g k := fun k hk => .inr (by simp only [List.mem_singleton] at hk; rw [hk]; exact hy)
  rw [zMsg]
  refine new_C g y fun t q1 m1 bt => ?_
  replace m := m.step m1 (by simp)
  have P := (e.mv m1 (by simp)).parts
  simp only [derefK_some, fldK_some]
  refine loadTagAt (cellsTo P.game (by omega)) e.ok.1 ?_
  refine loadK_cells P.player x.player (j := 0) (k := .int .i64) rfl rfl ?_
  refine loadK_cells P.bit x.bit (j := 0) (k := .int .i64) rfl rfl ?_
  refine loadTagAt (cellsTo P.nonce (by omega)) e.ok.2.2.2.1 ?_
  refine ⟨_, bldMsg_2 _ e.ok.1 _ _ _ e.ok.2.2.2.1, ?_⟩
  refine result_C (n := 234) szMsg dMsg bt (by simpa using lenMsg okMsg0) (by show (ShMsg.enc (openT23 x)).length = 234; exact lenMsg (okOpen23 e.ok)) oneMsg23 fun q2 m2 => ?_
  exact H (g.via q2 id) ((m.step m2 (by simp)).re id re)
theorem mkMsgs_C (g : GH) (d : Nat) (xs : List MsgT) {n : Nat} (hn : xs.length = n) (h0 : 0 < n) (hle : n ≤ 100) (ok : ∀ x ∈ xs, ShMsg.ok x) {parts : Array (Nat × Value)} (hp : parts.toList = ((xs.map fun x => Value.agg ⟨ShMsg.enc x⟩).zipIdx).map fun x => (x.2, x.1)) {K : Sl → Heap → Prop}
    (H : ∀ (s : Sl) (g' : GH), Mv [] g g' → OwnF T.api_Msg ShMsg g' d s xs → K s g'.h) : opK Try.prog .slice (Instr.buildSlice T.sl_api_Msg n parts) K g.h := by
  refine buildRows_C (e := T.api_Msg) (sz := ShMsg.size) (z := .agg (zerosOf Try.prog T.api_Msg)) (by kernel_rfl) (by kernel_rfl) (by decide) (xs.map fun x => Value.agg ⟨ShMsg.enc x⟩) hp (fun v hv => ?_) (by simpa using hn) h0 (by show n * 234 ≤ 16777216; omega) g d fun s g' m o hn1 hc1 => H s g' m ⟨?_, ok, by rw [hn1, hn]⟩
  · obtain ⟨x, hx, rfl⟩ := List.mem_map.1 hv
    show (ShMsg.enc x).length = 234
    exact lenMsg (ok x hx)
  · rw [List.flatMap_map] at o
    exact o
theorem drwSay_spec (e : DrwC g c p pm x) (d : Nat) {R : Value → Heap → Prop} (H : ∀ (s : Sl) (g' : GH), Mv [] g g' → OwnF T.api_Msg ShMsg g' d s (sayT23 x) → R (.slice s.a s.n s.c) g'.h) : HC Try.prog F.draw_Draw_Say #[.pointer (some ⟨p, 0, none⟩)] R g.h := by
  refine draw_Draw_Say.calls ?_
  unfold draw_Draw_Say.body
  have P := e.parts
  refine joinW_intro (fun s h' => s = x.given ∧ h' = g.h) ?_ ?_
  · intro J hJ
    refine drwMade_spec e ⟨_, rfl, ?_⟩
    try dsimp only
    rw [if_neg (by simp)]
    simp only [derefK_some, fldK_some]
    refine loadK_cells P.given x.given (j := 0) (k := .bool) rfl rfl ?_
    exact hJ _ _ ⟨rfl, rfl⟩
  rintro _ _ ⟨rfl, rfl⟩
  unfold sayT23 at H
  try dsimp only
  by_cases hg : x.given = true
  · rw [if_pos hg]
    rw [if_pos hg] at H
    exact H ⟨none, 0, 0⟩ g (Mv.refl _ _) (OwnF.nil _ _ _ _)
  rw [if_neg hg]
  rw [if_neg hg] at H
  simp only [derefK_some, fldK_some]
  refine loadK_cells P.phase x.phase (j := 0) (k := .int .i64) rfl rfl ?_
  by_cases h4 : x.phase = 4
  · rw [if_pos (by simpa using h4)]
    rw [if_pos h4] at H
    refine loadTagAt (cellsTo P.game (by omega)) e.ok.1 ?_
    refine loadK_cells P.player x.player (j := 0) (k := .int .i64) rfl rfl ?_
    refine ⟨_, bldMsg_4 _ e.ok.1 _, ?_⟩
    exact mkMsgs_C g d [abortT23 x] rfl (by simp) (by simp) (by simpa using okAbort23 e.ok) rfl H
  rw [if_neg (by simpa using h4)]
  rw [if_neg h4] at H
  refine loadK_cells P.phase x.phase (j := 0) (k := .int .i64) rfl rfl ?_
  by_cases h1 : x.phase = 1
  · rw [if_pos (by simpa using h1)]
    rw [if_pos h1] at H
    refine drwHidden_spec e fun q1 m1 => ⟨_, rfl, ?_⟩
    exact mkMsgs_C q1 d [hiddenT x] rfl (by simp) (by simp) (by simpa using okHidden e.ok) rfl fun s g' m o => H s g' (m1.step m (by simp)) o
  rw [if_neg (by simpa using h1)]
  rw [if_neg h1] at H
  refine drwHidden_spec e fun q1 m1 => ⟨_, rfl, ?_⟩
  refine drwOpen_spec (e.mv m1 (by simp)) fun q2 m2 => ⟨_, rfl, ?_⟩
  exact mkMsgs_C q2 d [hiddenT x, openT23 x] rfl (by simp) (by simp) (by
    intro y hy
    simp only [List.mem_cons, List.mem_nil_iff, or_false] at hy
    rcases hy with rfl | rfl
    · exact okHidden e.ok
    · exact okOpen23 e.ok) rfl fun s g' m o => H s g' ((m1.step m2 (L := []) (by simp)).step m (by simp)) o
end

/-! ### What is done -/
abbrev withPhase (x : DrwT) (n : Int) : DrwT := (x.game, x.player, x.bit, x.nonce, x.tag, x.theirs, x.toss, x.given, n, ())
theorem okPhase {x : DrwT} (ok : ShDrw.ok x) {n : Int} (h : 1 ≤ n ∧ n ≤ 4) : ShDrw.ok (withPhase x n) := ⟨ok.1, ok.2.1, ok.2.2.1, ok.2.2.2.1, ok.2.2.2.2.1, ok.2.2.2.2.2.1, ok.2.2.2.2.2.2.1, trivial, drwI64 h, trivial⟩
def abortOne (x : DrwT) : Int × DrwT := if x.phase = 3 ∨ x.phase = 4 then (18, x) else (0, withPhase x 4)
theorem drwAbort_spec {g : GH} {c p pm : Nat} {x : DrwT} (e : DrwC g c p pm x) {R : Value → Heap → Prop} (H : ∀ g' : GH, Mv [c] g g' → DrwC g' c p pm (abortOne x).2 → R (.int .i64 (abortOne x).1) g'.h) : HC Try.prog F.draw_Draw_Abort #[.pointer (some ⟨p, 0, none⟩)] R g.h := by
  refine draw_Draw_Abort.calls ?_
  unfold draw_Draw_Abort.body
  have P := e.parts
  unfold abortOne at H
  refine joinW_intro (fun _ h' => h' = g.h ∧ ¬ (x.phase = 3 ∨ x.phase = 4)) ?_ ?_
  · intro J hJ
    refine drwMade_spec e ⟨_, rfl, ?_⟩
    try dsimp only
    rw [if_neg (by simp)]
    simp only [derefK_some, fldK_some]
    refine loadK_cells P.phase x.phase (j := 0) (k := .int .i64) rfl rfl ?_
    by_cases h3 : x.phase = 3
    · rw [if_pos (by simpa using h3), if_pos (by simpa using h3)]
      rw [if_pos (.inl h3)] at H
      exact H g (Mv.refl _ _) e
    rw [if_neg (by simpa using h3)]
    refine loadK_cells P.phase x.phase (j := 0) (k := .int .i64) rfl rfl ?_
    by_cases h4 : x.phase = 4
    · rw [if_pos (by simpa using h4)]
      rw [if_pos (.inr h4)] at H
      exact H g (Mv.refl _ _) e
    rw [if_neg (by simpa using h4)]
    exact hJ _ _ ⟨rfl, by simp [h3, h4]⟩
  rintro _ _ ⟨rfl, hn⟩
  rw [if_neg hn] at H
  simp only [derefK_some, fldK_some]
  refine store_C e.blk (by rw [drwLen _ e.ok]; decide) rfl fun q2 m2 b2 => ?_
  rw [drwSetPhase _ _ e.ok] at b2
  exact H q2 m2 ⟨b2, okPhase e.ok (by decide), (show (1 : Int) ≤ 4 ∧ (4 : Int) ≤ 4 by decide)⟩

def committedT (x : DrwT) (t : List Int) : Int × DrwT :=
  if x.phase = 4 then (18, x) else if x.phase = 1 then (0, (x.game, x.player, x.bit, x.nonce, x.tag, t, x.toss, x.given, 2, ())) else if x.theirs = t then (12, x) else (15, x)
theorem drwCommitted_spec {g : GH} {c p pm : Nat} {x : DrwT} (e : DrwC g c p pm x) (y : MsgT) (ok : ShMsg.ok y) {R : Value → Heap → Prop} (H : ∀ g' : GH, Mv [c] g g' → DrwC g' c p pm (committedT x y.commit).2 → R (.int .i64 (committedT x y.commit).1) g'.h) :
    HC Try.prog F.draw_Draw_committed #[.pointer (some ⟨p, 0, none⟩), .agg ⟨ShMsg.enc y⟩] R g.h := by
  refine draw_Draw_committed.calls ?_
  unfold draw_Draw_committed.body
  obtain ⟨z, hz, hzn⟩ := fresh_exists g [c]
  simp only [List.mem_cons, List.mem_nil_iff, or_false] at hzn
  have m := Mv.refl [c, z] g
  have hre : ∀ k ∈ [c, z], k ∈ [c] ∨ Fresh g k := by
    intro k hk
    simp only [List.mem_cons, List.mem_nil_iff, or_false] at hk
    rcases hk with rfl | rfl
    · exact .inl (by simp)
    · exact .inr hz
  refine new_C g z fun py q1 m1 by_ => ?_
  replace m := m.step m1 (by simp)
  have e1 := e.mv m1 (by simp)
  have P := e1.parts
  have Y := msgAt ok (blkCells by_)
  simp only [derefK_some, fldK_some]
  refine loadK_cells P.phase x.phase (j := 0) (k := .int .i64) rfl rfl ?_
  unfold committedT at H
  by_cases h4 : x.phase = 4
  · rw [if_pos (by simpa using h4)]
    rw [if_pos h4] at H
    exact H (g.via q1 id) (m.re id hre) (e1.re (φ := id) m (.inl rfl))
  rw [if_neg (by simpa using h4)]
  rw [if_neg h4] at H
  refine loadK_cells P.phase x.phase (j := 0) (k := .int .i64) rfl rfl ?_
  by_cases h1 : x.phase = 1
  · rw [if_pos (by simpa using h1)]
    rw [if_pos h1] at H
    refine loadTagAt (cellsTo Y.commit (by omega)) ok.2.2.2.1 ?_
    refine store_C e1.blk (by rw [drwLen _ e.ok]; decide) rfl fun q2 m2 b2 => ?_
    rw [drwSetPhase _ _ e.ok] at b2
    replace m := m.step m2 (by simp)
    refine ⟨loadTagAt (cellsTo (msgAt ok (blkCells (by_.mv m2 (by simp [hzn])))).commit (by omega)) ok.2.2.2.1 rfl, ?_⟩
    have ok2 := okPhase e.ok (n := 2) (by decide)
    refine storeAgg_C b2 (by rw [szTag]; simpa using lenTag ok.2.2.2.1) (by rw [drwLen (x := withPhase x 2) _ ok2, szTag]; decide) (fun v hv => Sh.enc_one (s := ShTag) rfl v hv) fun q3 m3 b3 => ?_
    replace m := m.step m3 (by simp)
    have b3' := (drwSetTheirs (.pointer (some ⟨pm, 0, none⟩)) _ ok2 y.commit ok.2.2.2.1) ▸ b3
    have ok3 : ShDrw.ok (x.game, x.player, x.bit, x.nonce, x.tag, y.commit, x.toss, x.given, 2, ()) := ⟨e.ok.1, e.ok.2.1, e.ok.2.2.1, e.ok.2.2.2.1, e.ok.2.2.2.2.1, ok.2.2.2.1, e.ok.2.2.2.2.2.2.1, trivial, drwI64 (n := 2) (by decide), trivial⟩
    exact H (g.via q3 id) (m.re id hre) (DrwC.re (φ := id) ⟨b3', ok3, (show (1 : Int) ≤ 2 ∧ (2 : Int) ≤ 4 by decide)⟩ m (.inl rfl))
  rw [if_neg (by simpa using h1)]
  rw [if_neg h1] at H
  refine loadTagAt (cellsTo P.theirs (by omega)) e.ok.2.2.2.2.2.1 ?_
  refine loadTagAt (cellsTo Y.commit (by omega)) ok.2.2.2.1 ?_
  refine eqTag_F e.ok.2.2.2.2.2.1 ok.2.2.2.1 ?_
  by_cases ht : x.theirs = y.commit
  · rw [if_pos (by simpa using ht)]
    rw [if_pos ht] at H
    exact H (g.via q1 id) (m.re id hre) (e1.re (φ := id) m (.inl rfl))
  · rw [if_neg (by simpa using ht)]
    rw [if_neg ht] at H
    exact H (g.via q1 id) (m.re id hre) (e1.re (φ := id) m (.inl rfl))

def leftT (x : DrwT) : Int × DrwT :=
  if x.phase = 4 ∧ x.given = true then (12, x) else if x.phase = 4 ∨ x.phase = 3 then (18, x) else (0, (x.game, x.player, x.bit, x.nonce, x.tag, x.theirs, x.toss, true, 4, ()))
theorem drwLeft_spec {g : GH} {c p pm : Nat} {x : DrwT} (e : DrwC g c p pm x) (a : Array Value) {R : Value → Heap → Prop} (H : ∀ g' : GH, Mv [c] g g' → DrwC g' c p pm (leftT x).2 → R (.int .i64 (leftT x).1) g'.h) :
    HC Try.prog F.draw_Draw_left #[.pointer (some ⟨p, 0, none⟩), .agg a] R g.h := by
  refine draw_Draw_left.calls ?_
  unfold draw_Draw_left.body
  refine new_C g (c + 1) fun py q1 m1 by_ => ?_
  have e1 := e.mv m1 (by simp)
  have P := e1.parts
  unfold leftT at H
  have out : DrwC q1 c p pm x ∧ Mv [c] g q1 := ⟨e1, m1.mono (by simp)⟩
  refine joinW_intro (fun _ h' => h' = q1.h ∧ ¬ (x.phase = 4 ∨ x.phase = 3)) ?_ ?_
  · intro J hJ
    refine joinW_intro (fun s h' => s = decide (x.phase = 4 ∧ x.given = true) ∧ h' = q1.h) ?_ ?_
    · intro J2 hJ2
      simp only [derefK_some, fldK_some]
      refine loadK_cells P.phase x.phase (j := 0) (k := .int .i64) rfl rfl ?_
      by_cases h4 : x.phase = 4
      · rw [if_pos (by simpa using h4)]
        refine loadK_cells P.given x.given (j := 0) (k := .bool) rfl rfl ?_
        exact hJ2 _ _ ⟨by simp [h4], rfl⟩
      · rw [if_neg (by simpa using h4)]
        exact hJ2 _ _ ⟨by simp [h4], rfl⟩
    rintro _ _ ⟨rfl, rfl⟩
    try dsimp only
    by_cases h12 : x.phase = 4 ∧ x.given = true
    · rw [if_pos (by simpa using h12)]
      rw [if_pos h12] at H
      exact H q1 out.2 out.1
    rw [if_neg (by simpa using h12)]
    rw [if_neg h12] at H
    simp only [derefK_some, fldK_some]
    refine loadK_cells P.phase x.phase (j := 0) (k := .int .i64) rfl rfl ?_
    by_cases h4 : x.phase = 4
    · rw [if_pos (by simpa using h4), if_pos (by simpa using h4)]
      rw [if_pos (.inl h4)] at H
      exact H q1 out.2 out.1
    rw [if_neg (by simpa using h4)]
    refine loadK_cells P.phase x.phase (j := 0) (k := .int .i64) rfl rfl ?_
    by_cases h3 : x.phase = 3
    · rw [if_pos (by simpa using h3)]
      rw [if_pos (.inr h3)] at H
      exact H q1 out.2 out.1
    rw [if_neg (by simpa using h3)]
    exact hJ _ _ ⟨rfl, by simp [h3, h4]⟩
  rintro _ _ ⟨rfl, hn⟩
  rw [if_neg (fun h => hn (.inl h.1)), if_neg hn] at H
  simp only [derefK_some, fldK_some]
  refine store_C e1.blk (by rw [drwLen _ e.ok]; decide) rfl fun q2 m2 b2 => ?_
  rw [drwSetPhase _ _ e.ok] at b2
  have ok2 := okPhase e.ok (n := 4) (by decide)
  refine store_C b2 (by rw [drwLen (x := withPhase x 4) _ ok2]; decide) rfl fun q3 m3 b3 => ?_
  have b3' := (drwSetGiven (.pointer (some ⟨pm, 0, none⟩)) _ ok2 true) ▸ b3
  have ok3 : ShDrw.ok (x.game, x.player, x.bit, x.nonce, x.tag, x.theirs, x.toss, true, 4, ()) := ⟨e.ok.1, e.ok.2.1, e.ok.2.2.1, e.ok.2.2.2.1, e.ok.2.2.2.2.1, e.ok.2.2.2.2.2.1, e.ok.2.2.2.2.2.2.1, trivial, drwI64 (n := 4) (by decide), trivial⟩
  exact H q3 ((out.2.step m2 (by simp)).step m3 (by simp)) ⟨b3', ok3, (show (1 : Int) ≤ 4 ∧ (4 : Int) ≤ 4 by decide)⟩

def revealedT (real : Bool) (A : List ShThing.T) (x : DrwT) (y : MsgT) : Int × List ShThing.T × DrwT :=
  if x.phase = 4 ∨ x.phase = 1 then (18, A, x)
  else if ¬ fitsT x.theirs (coinT real A x.game y.sender y.bit y.nonce).1 (coinT real A x.game y.sender y.bit y.nonce).2.1 = 0 then (16, (coinT real A x.game y.sender y.bit y.nonce).2.2, x)
  else if x.phase = 3 then (12, (coinT real A x.game y.sender y.bit y.nonce).2.2, x)
  else (0, (coinT real A x.game y.sender y.bit y.nonce).2.2, (x.game, x.player, x.bit, x.nonce, x.tag, x.theirs, y.bit, x.given, 3, ()))
theorem drwRevealed_spec {g : GH} {c k cd p pm : Nat} (hck : ¬ c = k) (hcd : ¬ cd = k) (hcc : ¬ cd = c) {x : DrwT} (e : DrwC g cd p pm x) {real : Bool} {seed : List Int} {A : List ShThing.T} (xm : MakC g c k pm real seed A) (y : MsgT) (ok : ShMsg.ok y) {R : Value → Heap → Prop}
    (H : ∀ g' : GH, Mv [k, cd] g g' → MakC g' c k pm real seed (revealedT real A x y).2.1 → DrwC g' cd p pm (revealedT real A x y).2.2 → R (.int .i64 (revealedT real A x y).1) g'.h) :
    HC Try.prog F.draw_Draw_revealed #[.pointer (some ⟨p, 0, none⟩), .agg ⟨ShMsg.enc y⟩] R g.h := by
  refine draw_Draw_revealed.calls ?_
  unfold draw_Draw_revealed.body
  obtain ⟨z, hz, hzn⟩ := fresh_exists g [c, k, cd]
  simp only [List.mem_cons, List.mem_nil_iff, or_false, not_or] at hzn
  have m := Mv.refl [k, cd, z] g
  have hre : ∀ j ∈ [k, cd, z], j ∈ [k, cd] ∨ Fresh g j := by
    intro j hj
    simp only [List.mem_cons, List.mem_nil_iff, or_false] at hj
    rcases hj with rfl | rfl | rfl
    · exact .inl (by simp)
    · exact .inl (by simp)
    · exact .inr hz
  refine new_C g z fun py q1 m1 by_ => ?_
  replace m := m.step m1 (by simp)
  have e1 := e.mv m1 (by simp)
  have xm1 := xm.mv m1 (by simp) (by simp)
  have P := e1.parts
  have Y := msgAt ok (blkCells by_)
  unfold revealedT at H
  refine joinW_intro (fun s h' => s = decide (x.phase = 4 ∨ x.phase = 1) ∧ h' = q1.h) ?_ ?_
  · intro J hJ
    simp only [derefK_some, fldK_some]
    refine loadK_cells P.phase x.phase (j := 0) (k := .int .i64) rfl rfl ?_
    by_cases h4 : x.phase = 4
    · rw [if_pos (by simpa using h4)]
      exact hJ _ _ ⟨by simp [h4], rfl⟩
    · rw [if_neg (by simpa using h4)]
      refine loadK_cells P.phase x.phase (j := 0) (k := .int .i64) rfl rfl ?_
      exact hJ _ _ ⟨by simp [h4]; rfl, rfl⟩
  rintro _ _ ⟨rfl, rfl⟩
  try dsimp only
  by_cases h18 : x.phase = 4 ∨ x.phase = 1
  · rw [if_pos (by simpa using h18)]
    rw [if_pos h18] at H
    exact H (g.via q1 id) (m.re id hre) (xm1.re (φ := id) m (.inl rfl) (.inl rfl)) (e1.re (φ := id) m (.inl rfl))
  rw [if_neg (by simpa using h18)]
  rw [if_neg h18] at H
  have te : ∀ u : List Int, (⟨ShTag.enc u⟩ : Array Value) = tagA u := fun u => by rw [encTag]
  simp only [derefK_some, fldK_some]
  refine loadK_cells P.maker (some ⟨pm, 0, none⟩ : Option Addr) (j := 0) (k := .ptr) rfl rfl ?_
  refine loadTagAt (cellsTo P.theirs (by omega)) e.ok.2.2.2.2.2.1 ?_
  refine loadTagAt (cellsTo P.game (by omega)) e.ok.1 ?_
  refine loadK_cells Y.sender y.sender (j := 0) (k := .int .i64) rfl rfl ?_
  refine loadK_cells Y.bit y.bit (j := 0) (k := .int .i64) rfl rfl ?_
  refine loadTagAt (cellsTo Y.nonce (by omega)) ok.2.2.2.2.2.1 ?_
  rw [te, te, te]
  refine openCoin_spec hck xm1 x.theirs e.ok.2.2.2.2.2.1 x.game e.ok.1 y.sender y.bit y.nonce ok.2.2.2.2.2.1 fun q2 m2 xm2 => ⟨_, rfl, ?_⟩
  replace m := m.step m2 (by simp)
  have e2 := e1.mv m2 (by simp [hcd])
  have by2 := by_.mv m2 (by simp [hzn.2.1])
  have P2 := e2.parts
  have Y2 := msgAt ok (blkCells by2)
  try dsimp only
  generalize coinT real A x.game y.sender y.bit y.nonce = ct at xm2 H
  by_cases h16 : fitsT x.theirs ct.1 ct.2.1 = 0
  rotate_left
  · rw [if_pos (by simpa using h16)]
    rw [if_pos h16] at H
    exact H (g.via q2 id) (m.re id hre) (xm2.re (φ := id) m (.inl rfl) (.inl rfl)) (e2.re (φ := id) m (.inl rfl))
  rw [if_neg (by simpa using h16)]
  rw [if_neg (by simpa using h16)] at H
  refine loadK_cells P2.phase x.phase (j := 0) (k := .int .i64) rfl rfl ?_
  by_cases h3 : x.phase = 3
  · rw [if_pos (by simpa using h3)]
    rw [if_pos h3] at H
    exact H (g.via q2 id) (m.re id hre) (xm2.re (φ := id) m (.inl rfl) (.inl rfl)) (e2.re (φ := id) m (.inl rfl))
  rw [if_neg (by simpa using h3)]
  rw [if_neg h3] at H
  refine loadK_cells Y2.bit y.bit (j := 0) (k := .int .i64) rfl rfl ?_
  refine store_C e2.blk (by rw [drwLen _ e.ok]; decide) rfl fun q3 m3 b3 => ?_
  rw [drwSetPhase _ _ e.ok] at b3
  replace m := m.step m3 (by simp)
  refine ⟨stillK_cells (msgAt ok (blkCells (by2.mv m3 (by simp [hzn.2.2])))).bit (j := 0) (k := .int .i64) rfl rfl, ?_⟩
  have ok2 := okPhase e.ok (n := 3) (by decide)
  refine store_C b3 (by rw [drwLen (x := withPhase x 3) _ ok2]; decide) rfl fun q4 m4 b4 => ?_
  replace m := m.step m4 (by simp)
  have b4' := (drwSetToss (.pointer (some ⟨pm, 0, none⟩)) _ ok2 y.bit) ▸ b4
  have ok3 : ShDrw.ok (x.game, x.player, x.bit, x.nonce, x.tag, x.theirs, y.bit, x.given, 3, ()) := ⟨e.ok.1, e.ok.2.1, e.ok.2.2.1, e.ok.2.2.2.1, e.ok.2.2.2.2.1, e.ok.2.2.2.2.2.1, ok.2.2.2.2.1, trivial, drwI64 (n := 3) (by decide), trivial⟩
  exact H (g.via q4 id) (m.re id hre) (((xm2.mv m3 (by simp [Ne.symm hcc]) (by simp [Ne.symm hcd])).mv m4 (by simp [Ne.symm hcc]) (by simp [Ne.symm hcd])).re (φ := id) m (.inl rfl) (.inl rfl)) (DrwC.re (φ := id) ⟨b4', ok3, (show (1 : Int) ≤ 3 ∧ (3 : Int) ≤ 4 by decide)⟩ m (.inl rfl))

/-! ### Take -/
def takesF (n : Int) : Value := if n = 1 then .func (.func F.draw_Draw_committed) #[] #[] else if n = 2 then .func (.func F.draw_Draw_revealed) #[] #[] else if n = 4 then .func (.func F.draw_Draw_left) #[] #[] else .nilFunc
abbrev takesL : List MapEntry := [⟨.int .i64 1, takesF 1, 0⟩, ⟨.int .i64 2, takesF 2, 1⟩, ⟨.int .i64 4, takesF 4, 2⟩]
abbrev mapT23 : TypeId := T.map_aapi_MsgKind_func_p_draw_Draw_api_Msg_api_Errno
theorem uMap23 : Try.prog.underlying mapT23 = some (.map T.api_MsgKind T.func82) := by kernel_rfl
theorem uKind23 : Try.prog.underlying T.api_MsgKind = some (.int .i64) := by kernel_rfl
theorem ckKind23 (n : Int) (b : Bool) (w : World) : (Instr.checkKey b 10000 T.api_MsgKind (.int .i64 n)).run Try.prog w = .ok () w := by kernel_rfl
theorem takes_spec (g : GH) (c : Nat) {R : Value → Heap → Prop} (H : ∀ (r : Nat) (g' : GH), Mv [] g g' → MapC g' c r takesL 3 → R (.map (some r)) g'.h) : HC Try.prog F.draw_takes #[] R g.h := by
  refine draw_takes.calls ?_
  unfold draw_takes.body
  have m : Mv [1] g.base g.base := Mv.refl _ _
  refine makeMap_C g.base 1 fun r q0 m0 x => ?_
  replace m := m.step m0 (by simp)
  refine mapNew_C x uMap23 (ckKind23 1 false) (findKey_now uKind23 rfl) fun q1 m1 x => ?_
  replace m := m.step m1 (by simp)
  refine mapNew_C x uMap23 (ckKind23 2 false) (findKey_now uKind23 rfl) fun q1 m1 x => ?_
  replace m := m.step m1 (by simp)
  refine mapNew_C x uMap23 (ckKind23 4 false) (findKey_now uKind23 rfl) fun q1 m1 x => ?_
  replace m := m.step m1 (by simp)
  exact H r (g.via q1 fun _ => c) (m.via (by simp) _) (x.via m (by simp) _)
theorem lookupNone23 {P : Program} {t kt e : TypeId} {k : Kd} {g : GH} {c r : Nat} {es : List MapEntry} {n : Nat} {key : Value} (y : MapC g c r es n) (hu : P.underlying t = some (.map kt e)) (hck : ∀ (b : Bool) (w : World), (Instr.checkKey b 10000 kt key).run P w = .ok () w)
    (x : k.T) (hf : ∀ w : World, (Instr.findKey kt key es).run P w = .ok none w) (hz : ∀ w : World, (zeroValue e).run P w = .ok (k.inj x) w) {K : k.T → Prop} (H : K x) : quietK P k (Instr.lookup t (.map (some r)) key false) K g.h := by
  refine ⟨x, fun w hw => ?_, H⟩
  have hget : w.heap[r]? = some (.map ⟨es⟩ n) := by rw [hw]; exact y.at_
  unfold Instr.lookup
  simp only [Sem.run_bind, Sem.run_pure, run_underlying hu, Result.andThen_ok, run_getObj hget, hck, hf, hz, Bool.false_eq_true, if_false]
theorem takesLook {g : GH} {c r : Nat} (y : MapC g c r takesL 3) (n : Int) {K : Value → Prop} (H : K (takesF n)) : quietK Try.prog .any (Instr.lookup mapT23 (.map (some r)) (.int .i64 n) false) K g.h := by
  by_cases h1 : n = 1
  · subst h1; exact lookup_C (k := .any) (i := 0) y uMap23 (ckKind23 1) (takesF 1) (findKey_now uKind23 rfl) H
  by_cases h2 : n = 2
  · subst h2; exact lookup_C (k := .any) (i := 1) y uMap23 (ckKind23 2) (takesF 2) (findKey_now uKind23 rfl) H
  by_cases h4 : n = 4
  · subst h4; exact lookup_C (k := .any) (i := 2) y uMap23 (ckKind23 4) (takesF 4) (findKey_now uKind23 rfl) H
  have hn : Instr.findNow (.int .i64) (.int .i64 n) takesL 0 = some none := by
    have b : ∀ k : Int, ¬ n = k → (n == k) = false := fun k hk => by simpa using hk
    simp only [Instr.findNow, Instr.sameNow, b 1 h1, b 2 h2, b 4 h4, if_true]
  have e : takesF n = .nilFunc := by unfold takesF; rw [if_neg h1, if_neg h2, if_neg h4]
  rw [e] at H
  exact lookupNone23 (k := .any) y uMap23 (ckKind23 n) .nilFunc (findKey_now uKind23 hn) (fun w => by kernel_rfl) H

def oneT23 (real : Bool) (A : List ShThing.T) (x : DrwT) (y : MsgT) : Int × List ShThing.T × DrwT :=
  if ¬ rightOk y = true ∨ ¬ (y.kind = 1 ∨ y.kind = 2 ∨ y.kind = 4) then (2, A, x)
  else if ¬ y.game = x.game then (14, A, x)
  else if y.sender = x.player then (10, A, x)
  else if y.kind = 1 then ((committedT x y.commit).1, A, (committedT x y.commit).2)
  else if y.kind = 2 then revealedT real A x y
  else ((leftT x).1, A, (leftT x).2)
def takeT23 (real : Bool) : List ShThing.T → DrwT → List MsgT → Int × List ShThing.T × DrwT
  | A, x, [] => (0, A, x)
  | A, x, y :: l => if (oneT23 real A x y).1 = 0 then takeT23 real (oneT23 real A x y).2.1 (oneT23 real A x y).2.2 l else oneT23 real A x y
theorem takeT23_nil (real : Bool) (A : List ShThing.T) (x : DrwT) : takeT23 real A x [] = (0, A, x) := rfl
theorem takeT23_cons (real : Bool) (A : List ShThing.T) (x : DrwT) (y : MsgT) (l : List MsgT) : takeT23 real A x (y :: l) = if (oneT23 real A x y).1 = 0 then takeT23 real (oneT23 real A x y).2.1 (oneT23 real A x y).2.2 l else oneT23 real A x y := rfl

set_option maxHeartbeats 2000000 in
theorem drwTake_spec {g : GH} {c k cd p pm d : Nat} (hck : ¬ c = k) (hcd : ¬ cd = k) (hcc : ¬ cd = c) (hdk : ¬ d = k) (hdc : ¬ d = cd) {x : DrwT} (v : DrwC g cd p pm x) {real : Bool} {seed : List Int} {A : List ShThing.T} (xm : MakC g c k pm real seed A) (s : Sl) (xs : List MsgT) (hr : SlC g d ShMsg s xs) {R : Value → Heap → Prop}
    (H : ∀ g' : GH, Mv [k, cd] g g' → MakC g' c k pm real seed (takeT23 real A x xs).2.1 → DrwC g' cd p pm (takeT23 real A x xs).2.2 → R (.int .i64 (takeT23 real A x xs).1) g'.h) :
    HC Try.prog F.draw_Draw_Take #[.pointer (some ⟨p, 0, none⟩), .slice s.a s.n s.c] R g.h := by
  refine draw_Draw_Take.calls (l1 := s) ?_
  unfold draw_Draw_Take.body
  obtain ⟨y, hy, hyn⟩ := fresh_exists g [c, k, cd, d]
  simp only [List.mem_cons, List.mem_nil_iff, or_false, not_or] at hyn
  have hre : ∀ j ∈ [k, cd, y], j ∈ [k, cd] ∨ Fresh g j := by
    intro j hj
    simp only [List.mem_cons, List.mem_nil_iff, or_false] at hj
    rcases hj with rfl | rfl | rfl
    · exact .inl (by simp)
    · exact .inl (by simp)
    · exact .inr hy
  refine drwMade_spec v ⟨_, rfl, ?_⟩
  try dsimp only
  rw [if_neg (by simp)]
  have hn : s.n = xs.length := hr.len
  have hsm := hr.small
  refine loopW_rule (fun st h' => ∃ (i : Nat) (q : GH) (B : List ShThing.T) (z : DrwT), i ≤ xs.length ∧ st = (i : Int) ∧ h' = q.h ∧ Mv [k, cd, y] g q ∧ DrwC q cd p pm z ∧ MakC q c k pm real seed B ∧ takeT23 real A x xs = takeT23 real B z (xs.drop i)) (fun st => xs.length - st.toNat)
    ⟨0, g, A, x, by omega, rfl, rfl, Mv.refl _ _, v, xm, rfl⟩ ?_
  rintro X _ _ ⟨i, q, B, z, hi, rfl, rfl, m, v, xm, ht⟩ hX
  try dsimp only
  by_cases hlt : i < xs.length
  rotate_left
  · rw [if_neg (by simp; omega)]
    rw [List.drop_eq_nil_of_le (by omega), takeT23_nil] at ht
    have := H (g.via q id) (m.re id hre) (by rw [ht]; exact xm.re (φ := id) m (.inl rfl) (.inl rfl)) (by rw [ht]; exact v.re (φ := id) m (.inl rfl))
    rw [ht] at this
    exact this
  rw [if_pos (by simp; omega)]
  have hdrop : xs.drop i = xs[i] :: xs.drop (i + 1) := List.drop_eq_getElem_cons hlt
  rw [hdrop, takeT23_cons] at ht
  refine (hr.mv m (by simp [hdk, hdc, Ne.symm hyn.2.2.2])).idxF rfl szF_Msg (by decide) hlt fun b o hcs ok hel => ?_
  refine loadMsgAt hcs ok ?_
  refine newStore_C q y (by rw [szMsg]; simpa using lenMsg ok) (by rw [szMsg, zMsg]; simpa using lenMsg okMsg0) oneMsg23 fun pe q1 m1 be => ?_
  replace m := m.step m1 (by simp)
  replace v := v.mv m1 (by simp)
  replace xm := xm.mv m1 (by simp) (by simp)
  generalize xs[i] = w at ht ok be
  have Y := msgAt ok (blkCells be)
  simp only [fldK_some]
  refine loadK_cells Y.kind w.kind (j := 0) (k := .int .i64) rfl rfl ?_
  refine takes_spec q1 y fun r q2 m2 xr => ⟨some r, rfl, ?_⟩
  replace m := m.step m2 (by simp)
  replace v := v.mv m2 (by simp)
  replace xm := xm.mv m2 (by simp) (by simp)
  replace be := be.mv m2 (by simp)
  have Y := msgAt ok (blkCells be)
  refine ⟨stillK_cells Y.kind (j := 0) (k := .int .i64) rfl rfl, ?_⟩
  refine takesLook xr _ ?_
  have P := v.parts
  -- refused ahead of the deed
  have bad : ∀ (q' : GH) (n : Int), Mv [k, cd, y] g q' → DrwC q' cd p pm z → MakC q' c k pm real seed B → ¬ n = 0 → oneT23 real B z w = (n, B, z) → R (.int .i64 n) q'.h := by
    intro q' n m' v' xm' hn0 he
    rw [he, if_neg hn0] at ht
    have := H (g.via q' id) (m'.re id hre) (by rw [ht]; exact xm'.re (φ := id) m' (.inl rfl) (.inl rfl)) (by rw [ht]; exact v'.re (φ := id) m' (.inl rfl))
    rw [ht] at this
    exact this
  refine joinW_intro (fun s h' => s = decide (¬ rightOk w = true ∨ ¬ (w.kind = 1 ∨ w.kind = 2 ∨ w.kind = 4)) ∧ ∃ q' : GH, h' = q'.h ∧ Mv [] q2 q') ?_ ?_
  · intro J hJ
    refine loadMsgAt (blkCells be) ok ?_
    refine msgRight_spec q2 w ok fun q3 m3 => ⟨_, rfl, ?_⟩
    try dsimp only
    by_cases hrt : rightOk w = true
    · rw [if_neg (by simp [hrt])]
      by_cases h1 : w.kind = 1
      · refine ⟨false, fun w' => by rw [h1]; kernel_rfl, hJ _ _ ⟨by simp [hrt, h1], q3, rfl, m3⟩⟩
      by_cases h2 : w.kind = 2
      · refine ⟨false, fun w' => by rw [h2]; kernel_rfl, hJ _ _ ⟨by simp [hrt, h2], q3, rfl, m3⟩⟩
      by_cases h4 : w.kind = 4
      · refine ⟨false, fun w' => by rw [h4]; kernel_rfl, hJ _ _ ⟨by simp [hrt, h4], q3, rfl, m3⟩⟩
      · have e : takesF w.kind = .nilFunc := by unfold takesF; rw [if_neg h1, if_neg h2, if_neg h4]
        rw [e]
        exact ⟨true, fun w' => by kernel_rfl, hJ _ _ ⟨by simp [h1, h2, h4], q3, rfl, m3⟩⟩
    · rw [if_pos (by simpa using hrt)]
      exact hJ _ _ ⟨by simp [hrt], q3, rfl, m3⟩
  rintro _ _ ⟨rfl, q3, rfl, m3⟩
  replace m := m.step m3 (by simp)
  replace v := v.mv m3 (by simp)
  replace xm := xm.mv m3 (by simp) (by simp)
  replace be := be.mv m3 (by simp)
  have Y := msgAt ok (blkCells be)
  have P := v.parts
  try dsimp only
  by_cases hb : ¬ rightOk w = true ∨ ¬ (w.kind = 1 ∨ w.kind = 2 ∨ w.kind = 4)
  · rw [if_pos (decide_eq_true hb)]
    exact bad q3 2 m v xm (by decide) (by unfold oneT23; rw [if_pos hb])
  rw [if_neg (by rw [decide_eq_true_eq]; exact hb)]
  simp only [derefK_some, fldK_some]
  refine loadTagAt (cellsTo Y.game (by omega)) ok.2.1 ?_
  refine loadTagAt (cellsTo P.game (by omega)) v.ok.1 ?_
  refine neqF_Tag ok.2.1 v.ok.1 fun r hr => ?_
  by_cases hg : w.game = z.game
  rotate_left
  · rw [if_pos (hr.2 hg)]
    exact bad q3 14 m v xm (by decide) (by unfold oneT23; rw [if_neg hb, if_pos hg])
  rw [if_neg (fun h => hr.1 h hg)]
  refine loadK_cells Y.sender w.sender (j := 0) (k := .int .i64) rfl rfl ?_
  refine loadK_cells P.player z.player (j := 0) (k := .int .i64) rfl rfl ?_
  by_cases hs : w.sender = z.player
  · rw [if_pos (by simpa using hs)]
    exact bad q3 10 m v xm (by decide) (by unfold oneT23; rw [if_neg hb, if_neg (by simp [hg]), if_pos hs])
  rw [if_neg (by simpa using hs)]
  refine loadMsgAt (blkCells be) ok ?_
  have hk : w.kind = 1 ∨ w.kind = 2 ∨ w.kind = 4 := by
    rcases Classical.em (w.kind = 1 ∨ w.kind = 2 ∨ w.kind = 4) with h | h
    · exact h
    · exact absurd (.inr h) hb
  have ho : oneT23 real B z w = if w.kind = 1 then ((committedT z w.commit).1, B, (committedT z w.commit).2) else if w.kind = 2 then revealedT real B z w else ((leftT z).1, B, (leftT z).2) := by
    unfold oneT23
    rw [if_neg hb, if_neg (by simp [hg]), if_neg hs]
  have after : ∀ q' : GH, Mv [k, cd] q3 q' → MakC q' c k pm real seed (oneT23 real B z w).2.1 → DrwC q' cd p pm (oneT23 real B z w).2.2 →
      if ((oneT23 real B z w).1 != 0) = true then R (.int .i64 (oneT23 real B z w).1) q'.h else X (IntKind.i64.wrap ((i : Int) + 1)) q'.h := by
    intro q' m' xm' v'
    have mm : Mv [k, cd, y] g q' := m.step m' (by intro j hj; simp only [List.mem_cons, List.mem_nil_iff, or_false] at hj ⊢; rcases hj with rfl | rfl <;> simp)
    by_cases h0 : (oneT23 real B z w).1 = 0
    · rw [if_neg (by simpa using h0), wrapSucc (by omega)]
      rw [if_pos h0] at ht
      exact hX _ _ ⟨i + 1, q', _, _, by omega, rfl, rfl, mm, v', xm', ht⟩ (by simp; omega)
    · rw [if_pos (by simpa using h0)]
      rw [if_neg h0] at ht
      have := H (g.via q' id) (mm.re id hre) (by rw [ht]; exact xm'.re (φ := id) mm (.inl rfl) (.inl rfl)) (by rw [ht]; exact v'.re (φ := id) mm (.inl rfl))
      rw [ht] at this
      exact this
  by_cases h1 : w.kind = 1
  · rw [h1]
    rw [if_pos h1] at ho
    rw [ho] at after
    refine .inl ⟨_, _, _, rfl, drwCommitted_spec v w ok fun q' m' v' => ⟨_, rfl, ?_⟩⟩
    exact after q' (m'.mono (by simp)) (xm.mv m' (by simp [Ne.symm hcc]) (by simp [Ne.symm hcd])) v'
  rw [if_neg h1] at ho
  by_cases h2 : w.kind = 2
  · rw [h2]
    rw [if_pos h2] at ho
    rw [ho] at after
    refine .inl ⟨_, _, _, rfl, drwRevealed_spec hck hcd hcc v xm w ok fun q' m' xm' v' => ⟨_, rfl, ?_⟩⟩
    exact after q' m' xm' v'
  · have h4 : w.kind = 4 := by omega
    rw [h4]
    rw [if_neg h2] at ho
    rw [ho] at after
    refine .inl ⟨_, _, _, rfl, drwLeft_spec v _ fun q' m' v' => ⟨_, rfl, ?_⟩⟩
    exact after q' (m'.mono (by simp)) (xm.mv m' (by simp [Ne.symm hcc]) (by simp [Ne.symm hcd])) v'

/-! ### New -/
def newT23 (game : List Int) (player bit : Int) (nonce tag : List Int) : DrwT := (game, player, bit, nonce, tag, zero32, 0, false, 1, ())
theorem bldCoin23 (m : Option Addr) (game : List Int) (okg : ShTag.ok game) (a b : Int) (nonce : List Int) (okn : ShTag.ok nonce) (tag : List Int) (okt : ShTag.ok tag) (w : World) :
    (Instr.build T.draw_coin #[(0, .pointer m), (1, .agg (tagA game)), (2, .int .i64 a), (3, .int .i64 b), (4, .agg (tagA nonce)), (5, .agg (tagA tag))]).run Try.prog w = .ok (.agg ⟨([[.pointer m], ShTag.enc game, [.int .i64 a], [.int .i64 b], ShTag.enc nonce, ShTag.enc tag] : List (List Value)).flatten⟩) w := by
  have te : ∀ u : List Int, tagA u = ⟨ShTag.enc u⟩ := fun u => by rw [encTag]
  rw [te, te, te]
  have h := build_segs (P := Try.prog) (t := T.draw_coin) (fs := structFs Try.prog T.draw_coin) (parts := #[(0, .pointer m), (1, .agg ⟨ShTag.enc game⟩), (2, .int .i64 a), (3, .int .i64 b), (4, .agg ⟨ShTag.enc nonce⟩), (5, .agg ⟨ShTag.enc tag⟩)]) [[.pointer none], ShTag.enc zero32, [.int .i64 0], [.int .i64 0], ShTag.enc zero32, ShTag.enc zero32] (by kernel_rfl) (fun w => by kernel_rfl) (fun w => by kernel_rfl) (fun p hp => by
    simp only [List.mem_cons, List.mem_nil_iff, or_false] at hp
    rcases hp with rfl | rfl | rfl | rfl | rfl | rfl
    · exact ⟨_, rfl, rfl⟩
    · exact ⟨_, rfl, by show (ShTag.enc game).length = _; rw [lenTag okg, lenTag ok0]⟩
    · exact ⟨_, rfl, rfl⟩
    · exact ⟨_, rfl, rfl⟩
    · exact ⟨_, rfl, by show (ShTag.enc nonce).length = _; rw [lenTag okn, lenTag ok0]⟩
    · exact ⟨_, rfl, by show (ShTag.enc tag).length = _; rw [lenTag okt, lenTag ok0]⟩) w
  rw [h]
  rfl
theorem bldDraw23 (m : Option Addr) (game : List Int) (okg : ShTag.ok game) (a b : Int) (nonce : List Int) (okn : ShTag.ok nonce) (tag : List Int) (okt : ShTag.ok tag) (w : World) :
    (Instr.build T.draw_Draw #[(0, .agg ⟨([[.pointer m], ShTag.enc game, [.int .i64 a], [.int .i64 b], ShTag.enc nonce, ShTag.enc tag] : List (List Value)).flatten⟩), (2, .int .i64 1)]).run Try.prog w = .ok (.agg ⟨.pointer m :: ShDrw.enc (newT23 game a b nonce tag)⟩) w := by
  have h := build_segs (P := Try.prog) (t := T.draw_Draw) (fs := structFs Try.prog T.draw_Draw) (parts := #[(0, .agg ⟨([[.pointer m], ShTag.enc game, [.int .i64 a], [.int .i64 b], ShTag.enc nonce, ShTag.enc tag] : List (List Value)).flatten⟩), (2, .int .i64 1)])
    [([[.pointer none], ShTag.enc zero32, [.int .i64 0], [.int .i64 0], ShTag.enc zero32, ShTag.enc zero32] : List (List Value)).flatten, ShTag.enc zero32 ++ [.int .i64 0, .bool false], [.int .i64 0]] (by kernel_rfl) (fun w => by kernel_rfl) (fun w => by kernel_rfl) (fun p hp => by
    simp only [List.mem_cons, List.mem_nil_iff, or_false] at hp
    rcases hp with rfl | rfl
    · exact ⟨_, rfl, by show (List.flatten _).length = _; simp [lenTag okg, lenTag okn, lenTag okt, lenTag ok0]⟩
    · exact ⟨_, rfl, rfl⟩) w
  rw [h, drwForm]
  simp [Value.cells, drwSegs, newT23]
theorem coinT_tag (real : Bool) (A : List ShThing.T) (game : List Int) (player side : Int) (nonce : List Int) : ShTag.ok (coinT real A game player side nonce).1 := by
  have := someT_tag real A (bitT player && bitT side) nonce (coinRows game player side)
  exact okTag this.1 this.2
set_option maxHeartbeats 1000000 in
theorem drwNew_spec {g : GH} {c k pm : Nat} (hck : ¬ c = k) {real : Bool} {seed : List Int} {A : List ShThing.T} (xm : MakC g c k pm real seed A) (game : List Int) (okg : ShTag.ok game) (player bit : Int) (hp : -9223372036854775808 ≤ player ∧ player ≤ 9223372036854775807) (hb : -9223372036854775808 ≤ bit ∧ bit ≤ 9223372036854775807) (nonce : List Int) (okn : ShTag.ok nonce) (d : Nat) {R : Value → Heap → Prop}
    (H : (coinT real A game player bit nonce).2.1 = 0 → ∀ (p : Nat) (g' : GH), Mv [k] g g' → MakC g' c k pm real seed (coinT real A game player bit nonce).2.2 → DrwC g' d p pm (newT23 game player bit nonce (coinT real A game player bit nonce).1) → R (.tuple #[.pointer (some ⟨p, 0, none⟩), .int .i64 0]) g'.h)
    (H2 : ¬ (coinT real A game player bit nonce).2.1 = 0 → ∀ g' : GH, Mv [k] g g' → MakC g' c k pm real seed (coinT real A game player bit nonce).2.2 → R (.tuple #[.pointer none, .int .i64 (coinT real A game player bit nonce).2.1]) g'.h) :
    HC Try.prog F.draw_New #[.pointer (some ⟨pm, 0, none⟩), .agg (tagA game), .int .i64 player, .int .i64 bit, .agg (tagA nonce)] R g.h := by
  refine draw_New.calls ?_
  unfold draw_New.body
  have hgb := okTagB okg
  have hnb := okTagB okn
  obtain ⟨y, hy, hyn⟩ := fresh_exists g [c, k, d]
  simp only [List.mem_cons, List.mem_nil_iff, or_false, not_or] at hyn
  have m := Mv.refl [k, y] g
  have hre : ∀ j ∈ [k, y], j ∈ [k] ∨ Fresh g j := by
    intro j hj
    simp only [List.mem_cons, List.mem_nil_iff, or_false] at hj
    rcases hj with rfl | rfl
    · exact .inl (by simp)
    · exact .inr hy
  refine new_C g y fun pg q1 m1 bg => ?_
  refine new_C q1 y fun pn q2 m2 bn => ?_
  have e12 := m1.step m2 (L := []) (by simp)
  replace m := m.step e12 (by simp)
  replace bg := bg.mv m2 (by simp)
  replace xm := xm.mv e12 (by simp) (by simp)
  refine loadAgg_whole bg (tagA_size hgb.1) ?_
  refine loadAgg_whole bn (tagA_size hnb.1) ?_
  refine coin_spec hck xm game okg player bit nonce okn fun q3 m3 xm => ⟨(_, _), rfl, ?_⟩
  replace m := m.step m3 (by simp)
  replace bg := bg.mv m3 (by simp [hyn.2.1])
  replace bn := bn.mv m3 (by simp [hyn.2.1])
  try dsimp only
  have okt := coinT_tag real A game player bit nonce
  generalize coinT real A game player bit nonce = ct at xm okt H H2 ⊢
  have htb := okTagB okt
  rw [zTag]
  refine newStore_C q3 y (by rw [szTag]; simp [htb.1]) (by rw [szTag]; simp) (fun v hv => oneBy _ v hv) fun pt q4 m4 bt => ?_
  replace m := m.step m4 (by simp)
  replace bg := bg.mv m4 (by simp)
  replace bn := bn.mv m4 (by simp)
  replace xm := xm.mv m4 (by simp) (by simp)
  by_cases h0 : ct.2.1 = 0
  rotate_left
  · rw [if_pos (by simpa using h0)]
    exact H2 h0 (g.via q4 id) (m.re id hre) (xm.re (φ := id) m (.inl rfl) (.inl rfl))
  rw [if_neg (by simpa using h0)]
  refine loadAgg_whole bg (tagA_size hgb.1) ?_
  refine loadAgg_whole bn (tagA_size hnb.1) ?_
  refine loadAgg_whole bt (tagA_size htb.1) ?_
  refine ⟨_, bldCoin23 _ game okg player bit nonce okn ct.1 okt, ?_⟩
  refine ⟨_, bldDraw23 _ game okg player bit nonce okn ct.1 okt, ?_⟩
  have ok : ShDrw.ok (newT23 game player bit nonce ct.1) := ⟨okg, hp, hb, okn, okt, ok0, okI0, trivial, drwI64 (n := 1) (by decide), trivial⟩
  refine new_C q4 d fun p q5 m5 b => ?_
  replace m := m.step m5 (by simp)
  have dv : DrwC q5 d p pm (newT23 game player bit nonce ct.1) := ⟨b, ok, (show (1 : Int) ≤ 1 ∧ (1 : Int) ≤ 4 by decide)⟩
  exact H h0 p (g.via q5 id) (m.re id hre) ((xm.mv m5 (by simp) (by simp)).re (φ := id) m (.inl rfl) (.inl rfl)) (dv.re (φ := id) m (.inl rfl))

end Go.Proofs.Ytgllngcoclnpeaa
