/-
  Layer 21: rows that are linked, the chapter's examples, the document's answers.
-/
import Derived.Test.YtobdneijofchkaaGreatKRef20
import Derived.Test.YtobdneijofchkaaGreatKFork
set_option linter.unusedSimpArgs false
set_option linter.unusedVariables false
namespace Go.Proofs.YtobdneijofchkaaGreat
open Go Go.Ev

def resign : BodyT := (4, move0, false, 0, zero32, zero32, ())
def accept : BodyT := (3, move0, false, 0, zero32, zero32, ())
theorem okResign : ShBody.ok resign := ⟨okI (by decide), okMove0, trivial, okI0, ok0, ok0, trivial⟩
theorem okAccept : ShBody.ok accept := ⟨okI (by decide), okMove0, trivial, okI0, ok0, ok0, trivial⟩
theorem goodResign : bodyOk resign = true := by kernel_rfl
theorem goodAccept : bodyOk accept = true := by kernel_rfl

def link1 (game : List Int) (es : List EntryT) (b : BodyT) : EntryT := if (next20 game es b).2 = 0 then (next20 game es b).1 else (next20 game es resign).1
def linkedT (game : List Int) (bs : List BodyT) : List EntryT := bs.foldl (fun es b => es ++ [link1 game es b]) []
theorem linkedT_length (game : List Int) (bs : List BodyT) : (linkedT game bs).length = bs.length := by
  have : ∀ (bs : List BodyT) (es : List EntryT), (bs.foldl (fun es b => es ++ [link1 game es b]) es).length = es.length + bs.length := by
    intro bs
    induction bs with
    | nil => intro es; rfl
    | cons b bs ih => intro es; rw [List.foldl_cons, ih]; simp; omega
  rw [linkedT, this]; simp
theorem okLink1 {game : List Int} (hg : ShTag.ok game) {es : List EntryT} (hl : es.length ≤ 1000000) {b : BodyT} (hb : ShBody.ok b) : ShEntry.ok (link1 game es b) := by
  unfold link1; split
  · exact okNext20 hg hl hb
  · exact okNext20 hg hl okResign
theorem linkedT_snoc (game : List Int) (bs : List BodyT) (b : BodyT) : linkedT game (bs ++ [b]) = linkedT game bs ++ [link1 game (linkedT game bs) b] := by
  simp [linkedT, List.foldl_append]

theorem build20 (pm : Nat) (game : List Int) (h : ShTag.ok game) (w : World) : (Instr.build T.zugzwangref20_Chain #[(0, .pointer (some ⟨pm, 0, none⟩)), (1, .agg ⟨ShTag.enc game⟩)]).run Tryz.prog w = .ok (.agg (chn20A pm game ⟨none, 0, 0⟩)) w := by
  refine build_struct (fs := structFs Tryz.prog T.zugzwangref20_Chain) (places := #[(0, 1), (1, 32), (33, 1)]) (by kernel_rfl) (z := ⟨[.pointer none] ++ (List.replicate 32 (.int .u8 0) ++ [slV ⟨none, 0, 0⟩])⟩) (fun w => by kernel_rfl) (fun w => by kernel_rfl) ?_ w
  rw [fillA_step (off := 0) (size := 1) rfl rfl (by simp)]
  have e1' : overA ⟨[.pointer none] ++ (List.replicate 32 (Value.int .u8 0) ++ [slV ⟨none, 0, 0⟩])⟩ 0 (Value.pointer (some ⟨pm, 0, none⟩)).cells.toList = ⟨[.pointer (some ⟨pm, 0, none⟩)] ++ (List.replicate 32 (Value.int .u8 0) ++ [slV ⟨none, 0, 0⟩])⟩ :=
    over_part [] [.pointer none] (List.replicate 32 (Value.int .u8 0) ++ [slV ⟨none, 0, 0⟩]) [.pointer (some ⟨pm, 0, none⟩)] rfl
  rw [e1', fillA_step (off := 1) (size := 32) rfl (by simpa [Value.cells] using lenTag h) (by simp)]
  have e2' : overA ⟨[.pointer (some ⟨pm, 0, none⟩)] ++ (List.replicate 32 (Value.int .u8 0) ++ [slV ⟨none, 0, 0⟩])⟩ 1 (Value.agg ⟨ShTag.enc game⟩).cells.toList = ⟨[.pointer (some ⟨pm, 0, none⟩)] ++ (ShTag.enc game ++ [slV ⟨none, 0, 0⟩])⟩ :=
    over_part [.pointer (some ⟨pm, 0, none⟩)] (List.replicate 32 (Value.int .u8 0)) [slV ⟨none, 0, 0⟩] (ShTag.enc game) (by simp [lenTag h])
  rw [e2']
  simp [fillA]

theorem szTagV : sizeOfT Tryz.prog T.api_Tag = 32 := szTag

/-! ### What the document tells -/

def rolledT (old now : List EntryT) : Bool := (compareT now old).1 == 2
def signT (n : Int) : Int := if Int.tmod n 2 = 0 then 0 else 1
/-! ### The chapter's examples -/

theorem compareT_take {xs : List EntryT} {n : Nat} (h : n < xs.length) : compareT (xs.take n) xs = (2, n) := by
  have hl : (xs.take n).length = n := by simp; omega
  have hp : partAt (xs.take n) xs = n := partAt_eq (i := n) (by rw [List.take_take, Nat.min_self]) (by omega) fun h' => absurd h' (by omega)
  unfold compareT
  rw [hp, if_neg (by omega), if_pos (by omega)]
theorem compareT_self (xs : List EntryT) : compareT xs xs = (1, xs.length) := by
  have hp : partAt xs xs = xs.length := partAt_eq rfl (by omega) fun h' => absurd h' (by omega)
  unfold compareT
  rw [hp, if_neg (by omega), if_neg (by omega), if_neg (by omega)]
theorem link1_what {game : List Int} {es : List EntryT} {b : BodyT} (h : bodyOk b = true) : (link1 game es b).what = b := by
  have : next20 game es b = ((game, (es.length : Int), head20 game es, b, ()), 0) := by unfold next20; rw [if_pos h]
  unfold link1
  rw [this, if_pos rfl]
def exL : List EntryT := linkedT zero32 [resign, resign, resign, resign, resign]
def exO : List EntryT := linkedT zero32 [resign, accept]
theorem exL_length : exL.length = 5 := linkedT_length _ _
theorem exO_length : exO.length = 2 := linkedT_length _ _
theorem exLO : compareT exL exO = (4, 1) := by
  have hL : exL = link1 zero32 [] resign :: link1 zero32 [link1 zero32 [] resign] resign :: exL.drop 2 := rfl
  have hO : exO = link1 zero32 [] resign :: link1 zero32 [link1 zero32 [] resign] accept :: [] := rfl
  have hne : link1 zero32 [link1 zero32 [] resign] resign ≠ link1 zero32 [link1 zero32 [] resign] accept := fun e => by
    have h1 := link1_what (game := zero32) (es := [link1 zero32 [] resign]) goodResign
    have h2 := link1_what (game := zero32) (es := [link1 zero32 [] resign]) goodAccept
    rw [e, h2] at h1
    cases h1
  have hp : partAt exL exO = 1 := by
    rw [hL, hO]
    simp only [partAt]
    rw [if_pos trivial, if_neg hne]
  unfold compareT
  rw [hp, exL_length, exO_length]
  rfl

theorem tag0_build (w : World) : (Instr.build T.api_Tag #[]).run Tryz.prog w = .ok (.agg ⟨ShTag.enc zero32⟩) w := by kernel_rfl
theorem body_build4 (w : World) : (Instr.build T.api_Body #[(0, .int .i64 4)]).run Tryz.prog w = .ok (.agg ⟨ShBody.enc resign⟩) w := by kernel_rfl
theorem body_build3 (w : World) : (Instr.build T.api_Body #[(0, .int .i64 3)]).run Tryz.prog w = .ok (.agg ⟨ShBody.enc accept⟩) w := by kernel_rfl

end Go.Proofs.YtobdneijofchkaaGreat
