/-
  The package msg: contracts of its functions. Which bodies, entries, messages are right.
-/
import Derived.Test.YtgggpnjjkcfckaaKStruct
set_option linter.unusedSimpArgs false
set_option linter.unusedVariables false
namespace Go.Proofs.Ytgggpnjjkcfckaa
open Go Go.Ev

/-! ### In plain Lean -/

def sqOk (n : Int) : Bool := decide (0 ≤ n) && decide (n < 64)
def becOk (n : Int) : Bool := n == 0 || (decide (2 ≤ n) && decide (n ≤ 5))
def moveOk (m : MoveT) : Bool := sqOk m.1 && (sqOk m.2.1 && becOk m.2.2.1)
/-- What of a body is named beside what it says; whether that is something. -/
def namedD (b : BodyT) : BodyT × Bool :=
  if b.say = 1 then ((b.say, b.move, b.offer, 0, zero32, zero32, ()), moveOk b.move)
  else if b.say = 2 then ((b.say, move0, false, b.claim, zero32, zero32, ()), b.claim == 6 || b.claim == 7)
  else if b.say = 5 then ((b.say, move0, false, 0, b.sealed, zero32, ()), true)
  else if b.say = 7 then ((b.say, b.move, false, 0, zero32, b.nonce, ()), moveOk b.move)
  else ((b.say, move0, false, 0, zero32, zero32, ()), b.say == 3 || b.say == 4 || b.say == 6)
def bodyOk (b : BodyT) : Bool := (namedD b).2 && decide ((namedD b).1 = b)
def entryOk (e : EntryT) : Bool := decide (0 ≤ e.number) && (decide (e.number ≤ 4294967295) && bodyOk e.what)
def bitOk (n : Int) : Bool := n == 0 || n == 1
/-- What a message has by its kind. -/
def hasMsg (m : MsgT) : MsgT :=
  if m.kind = 1 then (m.kind, m.game, m.sender, m.commit, 0, zero32, entry0, ())
  else if m.kind = 2 then (m.kind, m.game, m.sender, zero32, m.bit, m.nonce, entry0, ())
  else if m.kind = 3 then (m.kind, m.game, 0, zero32, 0, zero32, m.entry, ())
  else (m.kind, m.game, m.sender, zero32, 0, zero32, entry0, ())
def kindOk (m : MsgT) : Bool :=
  if m.kind = 1 then true else if m.kind = 2 then bitOk m.bit else if m.kind = 3 then entryOk m.entry && decide (m.entry.game = m.game) else m.kind == 4
def rightOk (m : MsgT) : Bool := kindOk m && (bitOk m.sender && decide (hasMsg m = m))

theorem okNamed {b : BodyT} (ok : ShBody.ok b) : ShBody.ok (namedD b).1 := by
  obtain ⟨h1, h2, h3, h4, h5, h6, _⟩ := ok
  unfold namedD
  split
  · exact ⟨h1, h2, trivial, okI0, ok0, ok0, trivial⟩
  split
  · exact ⟨h1, okMove0, trivial, h4, ok0, ok0, trivial⟩
  split
  · exact ⟨h1, okMove0, trivial, okI0, h5, ok0, trivial⟩
  split
  · exact ⟨h1, h2, trivial, okI0, ok0, h6, trivial⟩
  · exact ⟨h1, okMove0, trivial, okI0, ok0, ok0, trivial⟩

/-! ### Walks -/

/-- A body that is told: loaded, stored as the result, loaded again. -/
theorem retBody {g : GH} {c p : Nat} {x : BodyT} (hb : BlkC g c p ⟨ShBody.enc x⟩ T.api_Body) (ok : ShBody.ok x) {K : Array Value → Heap → Prop} (H : ∀ g' : GH, Mv [c] g g' → K ⟨ShBody.enc x⟩ g'.h) :
    loadAggK (sizeOfT Try.prog T.api_Body) g.h (some ⟨p, 0, none⟩) (fun v => storeAggK (sizeOfT Try.prog T.api_Body) g.h (some ⟨p, 0, none⟩) v (fun h => quietK Try.prog .agg (Instr.loadAt T.api_Body (.pointer (some ⟨p, 0, none⟩))) (fun r => K r h) h)) := by
  refine loadBodyAt (blkCells hb) ok ?_
  have hl := lenBody ok
  exact result_C (n := 70) szBody dBody hb hl hl (fun v hv => Sh.enc_one (s := ShBody) rfl v hv) fun g' m => H g' m

theorem setMoveC {g : GH} {c p : Nat} {x : BodyT} (hb : BlkC g c p ⟨ShBody.enc x⟩ T.api_Body) (ok : ShBody.ok x) (mv : MoveT) {K : Heap → Prop} (H : ∀ g' : GH, Mv [c] g g' → BlkC g' c p ⟨ShBody.enc (x.1, mv, x.2.2)⟩ T.api_Body → K g'.h) : storeAggK (sizeOfT Try.prog T.api_Move) g.h (some ⟨p, 1, none⟩) ⟨ShMove.enc mv⟩ K := by
  have hl := lenBody ok
  refine storeAgg_C hb (by rw [szMove]; rfl) (by rw [szMove]; simp only [List.size_toArray]; omega) (fun v hv => Sh.enc_one (s := ShMove) rfl v hv) fun g' m b => ?_
  rw [bodySetMove] at b
  exact H g' m b
theorem setSealC {g : GH} {c p : Nat} {x : BodyT} (hb : BlkC g c p ⟨ShBody.enc x⟩ T.api_Body) (ok : ShBody.ok x) (t : List Int) (ht : ShTag.ok t) {K : Heap → Prop} (H : ∀ g' : GH, Mv [c] g g' → BlkC g' c p ⟨ShBody.enc (x.1, x.2.1, x.2.2.1, x.2.2.2.1, t, x.2.2.2.2.2)⟩ T.api_Body → K g'.h) : storeAggK (sizeOfT Try.prog T.api_Tag) g.h (some ⟨p, 6, none⟩) ⟨ShTag.enc t⟩ K := by
  have hl := lenBody ok
  refine storeAgg_C hb (by rw [szTag]; simpa using lenTag ht) (by rw [szTag]; simp only [List.size_toArray]; omega) (fun v hv => Sh.enc_one (s := ShTag) rfl v hv) fun g' m b => ?_
  rw [bodySetSeal x t ht ok.2.2.2.2.1] at b
  exact H g' m b
theorem setNonceC {g : GH} {c p : Nat} {x : BodyT} (hb : BlkC g c p ⟨ShBody.enc x⟩ T.api_Body) (ok : ShBody.ok x) (t : List Int) (ht : ShTag.ok t) {K : Heap → Prop} (H : ∀ g' : GH, Mv [c] g g' → BlkC g' c p ⟨ShBody.enc (x.1, x.2.1, x.2.2.1, x.2.2.2.1, x.2.2.2.2.1, t, ())⟩ T.api_Body → K g'.h) : storeAggK (sizeOfT Try.prog T.api_Tag) g.h (some ⟨p, 38, none⟩) ⟨ShTag.enc t⟩ K := by
  have hl := lenBody ok
  refine storeAgg_C hb (by rw [szTag]; simpa using lenTag ht) (by rw [szTag]; simp only [List.size_toArray]; omega) (fun v hv => Sh.enc_one (s := ShTag) rfl v hv) fun g' m b => ?_
  rw [bodySetNonce x t ht ok.2.2.2.2.2.1 ok.2.2.2.2.1] at b
  exact H g' m b
theorem setOfferC {g : GH} {c p : Nat} {x : BodyT} (hb : BlkC g c p ⟨ShBody.enc x⟩ T.api_Body) (ok : ShBody.ok x) (v : Bool) {K : Heap → Prop} (H : ∀ g' : GH, Mv [c] g g' → BlkC g' c p ⟨ShBody.enc (x.1, x.2.1, v, x.2.2.2)⟩ T.api_Body → K g'.h) : storeK g.h (some ⟨p, 4, none⟩) (.bool v) K := by
  have hl := lenBody ok
  refine store_C hb (by simp only [List.size_toArray]; omega) rfl fun g' m b => ?_
  rw [bodySetOffer] at b
  exact H g' m b
theorem setClaimC {g : GH} {c p : Nat} {x : BodyT} (hb : BlkC g c p ⟨ShBody.enc x⟩ T.api_Body) (ok : ShBody.ok x) (n : Int) {K : Heap → Prop} (H : ∀ g' : GH, Mv [c] g g' → BlkC g' c p ⟨ShBody.enc (x.1, x.2.1, x.2.2.1, n, x.2.2.2.2)⟩ T.api_Body → K g'.h) : storeK g.h (some ⟨p, 5, none⟩) (.int .i64 n) K := by
  have hl := lenBody ok
  refine store_C hb (by simp only [List.size_toArray]; omega) rfl fun g' m b => ?_
  rw [bodySetClaim] at b
  exact H g' m b
theorem setSayC {g : GH} {c p : Nat} {x : BodyT} (hb : BlkC g c p ⟨ShBody.enc x⟩ T.api_Body) (ok : ShBody.ok x) (n : Int) {K : Heap → Prop} (H : ∀ g' : GH, Mv [c] g g' → BlkC g' c p ⟨ShBody.enc (n, x.2)⟩ T.api_Body → K g'.h) : storeK g.h (some ⟨p, 0, none⟩) (.int .i64 n) K := by
  have hl := lenBody ok
  refine store_C hb (by simp only [List.size_toArray]; omega) rfl fun g' m b => ?_
  rw [bodySetSay] at b
  exact H g' m b

end Go.Proofs.Ytgggpnjjkcfckaa
