/-
  The api's data: moves, bodies, entries, messages, as shapes.
-/
import Derived.Test.YtijipdaofojbiaaKTag
import Derived.Test.YtijipdaofojbiaaFlat
set_option linter.unusedSimpArgs false
set_option linter.unusedVariables false
namespace Go.Proofs.Ytijipdaofojbiaa
open Go Go.Ev

abbrev ShMove : Sh := .pair (.int .i64) (.pair (.int .i64) (.pair (.int .i64) .unit))
abbrev ShBody : Sh := .pair (.int .i64) (.pair ShMove (.pair .bool (.pair (.int .i64) (.pair ShTag (.pair ShTag .unit)))))
abbrev ShEntry : Sh := .pair ShTag (.pair (.int .i64) (.pair ShTag (.pair ShBody .unit)))
abbrev MoveT := Int × Int × Int × Unit
abbrev BodyT := Int × MoveT × Bool × Int × List Int × List Int × Unit
abbrev EntryT := List Int × Int × List Int × BodyT × Unit
abbrev MsgT := Int × List Int × Int × List Int × Int × List Int × EntryT × Unit

instance instTagEq : DecidableEq (List Int × Unit) := instDecidableEqProd
instance instTagsEq : DecidableEq (List Int × List Int × Unit) := instDecidableEqProd
instance instMoveEq : DecidableEq MoveT := inferInstance
instance instBodyEq3 : DecidableEq (Int × List Int × List Int × Unit) := instDecidableEqProd
instance instBodyEq2 : DecidableEq (Bool × Int × List Int × List Int × Unit) := instDecidableEqProd
instance instBodyEq1 : DecidableEq (MoveT × Bool × Int × List Int × List Int × Unit) := instDecidableEqProd
instance instBodyEq : DecidableEq BodyT := instDecidableEqProd
instance instEntryEq3 : DecidableEq (BodyT × Unit) := instDecidableEqProd
instance instEntryEq2 : DecidableEq (List Int × BodyT × Unit) := instDecidableEqProd
instance instEntryEq1 : DecidableEq (Int × List Int × BodyT × Unit) := instDecidableEqProd
instance instEntryEq : DecidableEq EntryT := instDecidableEqProd
instance instMsgEq6 : DecidableEq (EntryT × Unit) := instDecidableEqProd
instance instMsgEq5 : DecidableEq (List Int × EntryT × Unit) := instDecidableEqProd
instance instMsgEq4 : DecidableEq (Int × List Int × EntryT × Unit) := instDecidableEqProd
instance instMsgEq3 : DecidableEq (List Int × Int × List Int × EntryT × Unit) := instDecidableEqProd
instance instMsgEq2 : DecidableEq (Int × List Int × Int × List Int × EntryT × Unit) := instDecidableEqProd
instance instMsgEq1 : DecidableEq (List Int × Int × List Int × Int × List Int × EntryT × Unit) := instDecidableEqProd
instance instMsgEq : DecidableEq MsgT := instDecidableEqProd

abbrev zero32 : List Int := List.replicate 32 0
abbrev move0 : MoveT := (0, 0, 0, ())
abbrev body0 : BodyT := (0, move0, false, 0, zero32, zero32, ())
abbrev entry0 : EntryT := (zero32, 0, zero32, body0, ())
theorem isByte_wrap (n : Int) : isByte (IntKind.u8.wrap n) := by rw [wrapU8_mod]; unfold isByte; omega
theorem okTagB {t : List Int} (h : ShTag.ok t) : t.length = 32 ∧ ∀ x ∈ t, isByte x := ⟨h.1, fun x hx => h.2 x hx⟩
theorem ok0 : ShTag.ok zero32 := okTag (by simp) fun x hx => by rw [(List.mem_replicate.1 hx).2]; unfold isByte; omega
theorem okI {n : Int} (h : -9223372036854775808 ≤ n ∧ n ≤ 9223372036854775807) : (Sh.int .i64).ok n := h
theorem okI0 : (Sh.int .i64).ok (0 : Int) := okI (by decide)
theorem okMove0 : ShMove.ok move0 := ⟨okI0, okI0, okI0, trivial⟩
theorem okBody0 : ShBody.ok body0 := ⟨okI0, okMove0, trivial, okI0, ok0, ok0, trivial⟩
theorem okEntry0 : ShEntry.ok entry0 := ⟨ok0, okI0, ok0, okBody0, trivial⟩
end Go.Proofs.Ytijipdaofojbiaa

/-!
  The api's data in blocks: their parts, read and written.
-/
namespace Go.Proofs.Ytijipdaofojbiaa
open Go Go.Ev

theorem blkCells {g : GH} {c p : Nat} {cs : List Value} {e : TypeId} (h : BlkC g c p ⟨cs⟩ e) : CellsC g c p 0 cs := ⟨⟨_, e, _, h.blk, fun j hj => by simp⟩, h.col⟩
theorem cellsFst {g : GH} {c b o : Nat} {xs ys : List Value} (h : CellsC g c b o (xs ++ ys)) : CellsC g c b o xs := by
  obtain ⟨⟨y, e, fz, hb, hx⟩, hc⟩ := h
  exact ⟨⟨y, e, fz, hb, fun j hj => by rw [hx j (by simp; omega), List.getElem?_append_left hj]⟩, hc⟩
theorem cellsSnd {g : GH} {c b o n : Nat} {xs ys : List Value} (h : CellsC g c b o (xs ++ ys)) (hn : xs.length = n) : CellsC g c b (o + n) ys := by
  subst hn
  obtain ⟨⟨y, e, fz, hb, hx⟩, hc⟩ := h
  exact ⟨⟨y, e, fz, hb, fun j hj => by rw [Nat.add_assoc, hx _ (by simp; omega), List.getElem?_append_right (by omega), Nat.add_sub_cancel_left]⟩, hc⟩
theorem cellsTo {g : GH} {c b o o' : Nat} {xs : List Value} (h : CellsC g c b o xs) (e : o' = o) : CellsC g c b o' xs := e ▸ h

theorem lenTag {t : List Int} (h : ShTag.ok t) : (ShTag.enc t).length = 32 := Sh.enc_length rfl h
theorem lenMove {x : MoveT} : (ShMove.enc x).length = 3 := rfl
theorem lenBody {x : BodyT} (h : ShBody.ok x) : (ShBody.enc x).length = 70 := Sh.enc_length rfl h
theorem lenEntry {x : EntryT} (h : ShEntry.ok x) : (ShEntry.enc x).length = 135 := Sh.enc_length rfl h
abbrev BodyT.say (b : BodyT) : Int := b.1
abbrev BodyT.move (b : BodyT) : MoveT := b.2.1
abbrev BodyT.offer (b : BodyT) : Bool := b.2.2.1
abbrev BodyT.claim (b : BodyT) : Int := b.2.2.2.1
abbrev BodyT.sealed (b : BodyT) : List Int := b.2.2.2.2.1
abbrev BodyT.nonce (b : BodyT) : List Int := b.2.2.2.2.2.1
abbrev EntryT.game (e : EntryT) : List Int := e.1
abbrev EntryT.number (e : EntryT) : Int := e.2.1
abbrev EntryT.ahead (e : EntryT) : List Int := e.2.2.1
abbrev EntryT.what (e : EntryT) : BodyT := e.2.2.2.1
abbrev MsgT.game (m : MsgT) : List Int := m.2.1
abbrev MsgT.nonce (m : MsgT) : List Int := m.2.2.2.2.2.1
abbrev MsgT.entry (m : MsgT) : EntryT := m.2.2.2.2.2.2.1

structure BodyAt (g : GH) (c b o : Nat) (x : BodyT) : Prop where
  whole : CellsC g c b o (ShBody.enc x)
  say : CellsC g c b o [.int .i64 x.say]
  move : CellsC g c b (o + 1) (ShMove.enc x.move)
  offer : CellsC g c b (o + 4) [.bool x.offer]
  claim : CellsC g c b (o + 5) [.int .i64 x.claim]
  sealed : CellsC g c b (o + 6) (ShTag.enc x.sealed)
  nonce : CellsC g c b (o + 38) (ShTag.enc x.nonce)
theorem bodyAt {g : GH} {c b o : Nat} {x : BodyT} (ok : ShBody.ok x) (h : CellsC g c b o (ShBody.enc x)) : BodyAt g c b o x := by
  have h1 := cellsSnd (n := 1) h rfl
  have h2 := cellsSnd (n := 3) h1 rfl
  have h3 := cellsSnd (n := 1) h2 rfl
  have h4 := cellsSnd (n := 1) h3 rfl
  have h5 := cellsSnd (n := 32) h4 (lenTag ok.2.2.2.2.1)
  exact ⟨h, cellsFst h, cellsFst h1, cellsTo (cellsFst h2) (by omega), cellsTo (cellsFst h3) (by omega), cellsTo (cellsFst h4) (by omega), cellsTo (cellsFst h5) (by omega)⟩

structure EntryAt (g : GH) (c b o : Nat) (x : EntryT) : Prop where
  whole : CellsC g c b o (ShEntry.enc x)
  game : CellsC g c b o (ShTag.enc x.game)
  number : CellsC g c b (o + 32) [.int .i64 x.number]
  ahead : CellsC g c b (o + 33) (ShTag.enc x.ahead)
  what : CellsC g c b (o + 65) (ShBody.enc x.what)
theorem entryAt {g : GH} {c b o : Nat} {x : EntryT} (ok : ShEntry.ok x) (h : CellsC g c b o (ShEntry.enc x)) : EntryAt g c b o x := by
  have h1 := cellsSnd (n := 32) h (lenTag ok.1)
  have h2 := cellsSnd (n := 1) h1 rfl
  have h3 := cellsSnd (n := 32) h2 (lenTag ok.2.2.1)
  exact ⟨h, cellsFst h, cellsFst h1, cellsTo (cellsFst h2) (by omega), cellsTo (cellsFst h3) (by omega)⟩

/-! ### Parts written -/

theorem over_at {pre mid post new : List Value} {n : Nat} (hp : pre.length = n) (hn : new.length = mid.length) : overA ⟨pre ++ (mid ++ post)⟩ n new = ⟨pre ++ (new ++ post)⟩ := by
  subst hp
  unfold overA
  rw [List.take_left, hn, List.append_assoc]
  congr 3
  rw [← List.drop_drop, List.drop_left, List.drop_left]
theorem set_at {pre post : List Value} {n : Nat} {v w : Value} (hp : pre.length = n) : (⟨pre ++ (v :: post)⟩ : Array Value).setIfInBounds n w = ⟨pre ++ (w :: post)⟩ := by
  subst hp
  rw [List.setIfInBounds_toArray, List.set_append_right _ _ (Nat.le_refl _), Nat.sub_self]
  rfl

theorem bodySetSay (x : BodyT) (n : Int) : (⟨ShBody.enc x⟩ : Array Value).setIfInBounds 0 (.int .i64 n) = ⟨ShBody.enc (n, x.2)⟩ := set_at (pre := []) rfl
theorem bodySetMove (x : BodyT) (mv : MoveT) : overA ⟨ShBody.enc x⟩ 1 (ShMove.enc mv) = ⟨ShBody.enc (x.1, mv, x.2.2)⟩ := over_at (pre := [.int .i64 x.1]) (mid := ShMove.enc x.2.1) rfl rfl
theorem bodySetOffer (x : BodyT) (v : Bool) : (⟨ShBody.enc x⟩ : Array Value).setIfInBounds 4 (.bool v) = ⟨ShBody.enc (x.1, x.2.1, v, x.2.2.2)⟩ := set_at (pre := .int .i64 x.1 :: ShMove.enc x.2.1) (v := .bool x.2.2.1) (post := Sh.enc (.pair (.int .i64) (.pair ShTag (.pair ShTag .unit))) x.2.2.2) rfl
theorem bodySetClaim (x : BodyT) (n : Int) : (⟨ShBody.enc x⟩ : Array Value).setIfInBounds 5 (.int .i64 n) = ⟨ShBody.enc (x.1, x.2.1, x.2.2.1, n, x.2.2.2.2)⟩ := set_at (pre := Value.int .i64 x.1 :: (ShMove.enc x.2.1 ++ [Value.bool x.2.2.1])) (v := .int .i64 x.2.2.2.1) (post := Sh.enc (.pair ShTag (.pair ShTag .unit)) x.2.2.2.2) rfl
theorem bodySetSeal (x : BodyT) (t : List Int) (ht : ShTag.ok t) (hx : ShTag.ok x.sealed) : overA ⟨ShBody.enc x⟩ 6 (ShTag.enc t) = ⟨ShBody.enc (x.1, x.2.1, x.2.2.1, x.2.2.2.1, t, x.2.2.2.2.2)⟩ :=
  over_at (pre := .int .i64 x.1 :: (ShMove.enc x.2.1 ++ [.bool x.2.2.1, .int .i64 x.2.2.2.1])) (mid := ShTag.enc x.sealed) rfl (by rw [lenTag ht, lenTag hx])
theorem bodySetNonce (x : BodyT) (t : List Int) (ht : ShTag.ok t) (hx : ShTag.ok x.nonce) (hs : ShTag.ok x.sealed) : overA ⟨ShBody.enc x⟩ 38 (ShTag.enc t) = ⟨ShBody.enc (x.1, x.2.1, x.2.2.1, x.2.2.2.1, x.2.2.2.2.1, t, ())⟩ := by
  have e : ∀ u : List Int, ShBody.enc (x.1, x.2.1, x.2.2.1, x.2.2.2.1, x.2.2.2.2.1, u, ()) = (.int .i64 x.1 :: (ShMove.enc x.2.1 ++ ([.bool x.2.2.1, .int .i64 x.2.2.2.1] ++ ShTag.enc x.sealed))) ++ (ShTag.enc u ++ []) := fun u => by simp [Sh.enc]
  have h := e x.nonce
  have hx' : x = (x.1, x.2.1, x.2.2.1, x.2.2.2.1, x.2.2.2.2.1, x.nonce, ()) := rfl
  rw [hx', h, e t]
  exact over_at (by simp [lenTag hs, lenMove]) (by rw [lenTag ht, lenTag hx])

/-! ### What the program says of them -/

theorem szMove : sizeOfT Try.prog T.api_Move = 3 := by kernel_rfl
theorem szBody : sizeOfT Try.prog T.api_Body = 70 := by kernel_rfl
theorem szEntry : sizeOfT Try.prog T.api_Entry = 135 := by kernel_rfl
theorem zBody : zerosOf Try.prog T.api_Body = ⟨ShBody.enc body0⟩ := by kernel_rfl
theorem zEntry : zerosOf Try.prog T.api_Entry = ⟨ShEntry.enc entry0⟩ := by kernel_rfl
theorem dBody (p : Option Addr) : doesLoad Try.prog T.api_Body (.pointer p) = .quietP fun h K => loadAggK (sizeOfT Try.prog T.api_Body) h p fun cs => K (.agg cs) := by kernel_rfl
/-- A tag, a move, a body, .. as a whole. -/
theorem loadTagAt {g : GH} {c b o : Nat} {t : List Int} (h : CellsC g c b o (ShTag.enc t)) (ok : ShTag.ok t) {K : Array Value → Prop} (hK : K ⟨ShTag.enc t⟩) : loadAggK (sizeOfT Try.prog T.api_Tag) g.h (some ⟨b, o, none⟩) K := loadF (s := ShTag) h szTag (by decide) (lenTag ok) hK
theorem loadMoveAt {g : GH} {c b o : Nat} {t : MoveT} (h : CellsC g c b o (ShMove.enc t)) {K : Array Value → Prop} (hK : K ⟨ShMove.enc t⟩) : loadAggK (sizeOfT Try.prog T.api_Move) g.h (some ⟨b, o, none⟩) K := loadF (s := ShMove) h szMove (by decide) rfl hK
theorem loadBodyAt {g : GH} {c b o : Nat} {t : BodyT} (h : CellsC g c b o (ShBody.enc t)) (ok : ShBody.ok t) {K : Array Value → Prop} (hK : K ⟨ShBody.enc t⟩) : loadAggK (sizeOfT Try.prog T.api_Body) g.h (some ⟨b, o, none⟩) K := loadF (s := ShBody) h szBody (by decide) (lenBody ok) hK
theorem loadEntryAt {g : GH} {c b o : Nat} {t : EntryT} (h : CellsC g c b o (ShEntry.enc t)) (ok : ShEntry.ok t) {K : Array Value → Prop} (hK : K ⟨ShEntry.enc t⟩) : loadAggK (sizeOfT Try.prog T.api_Entry) g.h (some ⟨b, o, none⟩) K := loadF (s := ShEntry) h szEntry (by decide) (lenEntry ok) hK
theorem eqBody_F {x y : BodyT} {ox oy : Operand} (hx : ShBody.ok x) (hy : ShBody.ok y) {K : Bool → Prop} (H : K (decide (x = y))) : eqK Try.prog (binSem .eql T.api_Body ox oy (.agg ⟨ShBody.enc x⟩) (.agg ⟨ShBody.enc y⟩)) K :=
  eqK_flat (P := Try.prog) ShBody (t := T.api_Body) (m := 10) (by decide) rfl (by kernel_rfl) (by kernel_rfl) (by kernel_rfl) (by kernel_rfl) (by kernel_rfl) hx hy fun r hr => by
    have : r = decide (x = y) := by cases r <;> simp_all
    rw [this]; exact H
end Go.Proofs.Ytijipdaofojbiaa
