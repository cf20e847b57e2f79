/-
  The chapter's example; coins of a table.
-/
import Derived.Test.YtgllngcoclnpeaaKDraw
set_option linter.unusedSimpArgs false
set_option linter.unusedVariables false
namespace Go.Proofs.Ytgllngcoclnpeaa
open Go Go.Ev

theorem bldTagZ23 (w : World) : (Instr.build T.api_Tag #[]).run Try.prog w = .ok (.agg (tagA zero32)) w := by kernel_rfl
def dA1 : List Int × Int × List ShThing.T := coinT false [thD 0] zero32 0 0 (numT 0)
def dN1 : Nat × List ShThing.T := askT dA1.2.2 (thD 1)
def dB1 : List Int × Int × List ShThing.T := coinT false dN1.2 zero32 1 1 (numT (dN1.1 : Int))
def dA : DrwT := newT23 zero32 0 0 (numT 0) dA1.1
def dB : DrwT := newT23 zero32 1 1 (numT (dN1.1 : Int)) dB1.1
def dT1 : Int × List ShThing.T × DrwT := takeT23 false dB1.2.2 dA (sayT23 dB)
def dT2 : Int × List ShThing.T × DrwT := takeT23 false dT1.2.1 dB (sayT23 dT1.2.2)
def dM : MsgT := openT23 dT2.2.2
def dT3 : Int × List ShThing.T × DrwT := takeT23 false dT2.2.1 dT1.2.2 [dM]
theorem drawn23 : askT [] (thD 0) = (0, [thD 0]) := by kernel_rfl
theorem dA1_0 : dA1.2.1 = 0 := by kernel_rfl
theorem dB1_0 : dB1.2.1 = 0 := by kernel_rfl
theorem dT1_0 : dT1.1 = 0 := by kernel_rfl
theorem dT2_0 : dT2.1 = 0 := by kernel_rfl
theorem dT3_0 : dT3.1 = 0 := by kernel_rfl
theorem dSay2 : sayT23 dT2.2.2 = [hiddenT dT2.2.2, dM] := by kernel_rfl
theorem dW1 : whiteT dT3.2.2 = (1, true) := by kernel_rfl
theorem dW2 : whiteT dT2.2.2 = (1, true) := by kernel_rfl
theorem dS2 : sideT dT2.2.2 = (0, true) := by kernel_rfl

set_option maxHeartbeats 4000000 in
theorem awake23_spec (g : GH) {R : Value → Heap → Prop} (H : ∀ g' : GH, Mv [] g g' → R (.bool true) g'.h) : HC Try.prog F.law23_awake #[] R g.h := by
  refine law23_awake.calls ?_
  unfold law23_awake.body
  have m := Mv.refl [1, 2, 3, 4, 5] g.base
  have okn : ∀ n : Int, ShTag.ok (numT n) := fun n => okTag (numT_length n) (numT_byte n)
  refine makNew_spec g.base 1 2 false ⟨none, 0, 0⟩ [] (RdC.nil _ _ 0 _ _) (by simp) (by simp) fun pm q1 m1 xm => ⟨_, rfl, ?_⟩
  replace m := m.step m1 (by simp)
  refine ⟨_, bldTagZ23, ?_⟩
  refine drawTab_spec (by decide) xm 0 (by decide) fun q2 m2 xm => ⟨_, rfl, ?_⟩
  replace m := m.step m2 (by simp)
  rw [drawn23] at xm ⊢
  refine drwNew_spec (by decide) xm zero32 ok0 0 0 (by decide) (by decide) (numT ((0 : Nat) : Int)) (okn _) 3 (fun _ pa q3 m3 xm va => ⟨(_, _), rfl, ?_⟩) (fun h => absurd dA1_0 h)
  have e1 : coinT false [thD 0] zero32 0 0 (numT ((0 : Nat) : Int)) = dA1 := rfl
  rw [show (0, [thD 0]).2 = [thD 0] from rfl, e1] at xm va
  replace m := m.step m3 (by simp)
  refine ⟨_, bldTagZ23, ?_⟩
  refine drawTab_spec (by decide) xm 1 (by decide) fun q4 m4 xm => ⟨_, rfl, ?_⟩
  have e2 : askT dA1.2.2 (thD 1) = dN1 := rfl
  rw [e2] at xm ⊢
  replace m := m.step m4 (by simp)
  replace va := va.mv m4 (by simp)
  refine drwNew_spec (by decide) xm zero32 ok0 1 1 (by decide) (by decide) (numT (dN1.1 : Int)) (okn _) 4 (fun _ pb q5 m5 xm vb => ⟨(_, _), rfl, ?_⟩) (fun h => absurd dB1_0 h)
  have e3 : coinT false dN1.2 zero32 1 1 (numT (dN1.1 : Int)) = dB1 := rfl
  rw [e3] at xm vb
  replace m := m.step m5 (by simp)
  replace va := va.mv m5 (by simp)
  try dsimp only
  rw [if_neg (by simp), if_neg (by simp)]
  refine drwSay_spec vb 5 fun s6 q6 m6 o6 => ⟨_, rfl, ?_⟩
  replace m := m.step m6 (by simp)
  replace va := va.mv m6 (by simp)
  replace vb := vb.mv m6 (by simp)
  replace xm := xm.mv m6 (by simp) (by simp)
  have l2 : ∀ z : DrwT, (sayT23 z).length ≤ 2 := by
    intro z
    unfold sayT23
    split; · simp
    split; · simp
    split <;> simp
  refine drwTake_spec (by decide) (by decide) (by decide) (by decide) (by decide) va xm s6 _ (o6.slc rfl (by have := l2 (newT23 zero32 1 1 (numT (dN1.1 : Int)) dB1.1); omega)) fun q7 m7 xm va => ⟨_, rfl, ?_⟩
  have e4 : takeT23 false dB1.2.2 (newT23 zero32 0 0 (numT ((0 : Nat) : Int)) dA1.1) (sayT23 (newT23 zero32 1 1 (numT (dN1.1 : Int)) dB1.1)) = dT1 := rfl
  rw [e4] at xm va ⊢
  replace m := m.step m7 (by simp)
  replace vb := vb.mv m7 (by simp)
  try dsimp only
  rw [dT1_0, if_neg (by simp)]
  refine drwSay_spec va 5 fun s8 q8 m8 o8 => ⟨_, rfl, ?_⟩
  replace m := m.step m8 (by simp)
  replace va := va.mv m8 (by simp)
  replace vb := vb.mv m8 (by simp)
  replace xm := xm.mv m8 (by simp) (by simp)
  refine drwTake_spec (by decide) (by decide) (by decide) (by decide) (by decide) vb xm s8 _ (o8.slc rfl (by have := l2 dT1.2.2; omega)) fun q9 m9 xm vb => ⟨_, rfl, ?_⟩
  have e5 : takeT23 false dT1.2.1 (newT23 zero32 1 1 (numT (dN1.1 : Int)) dB1.1) (sayT23 dT1.2.2) = dT2 := rfl
  rw [e5] at xm vb ⊢
  replace m := m.step m9 (by simp)
  replace va := va.mv m9 (by simp)
  try dsimp only
  rw [dT2_0, if_neg (by simp)]
  refine drwSay_spec vb 5 fun s10 q10 m10 o10 => ⟨_, rfl, ?_⟩
  replace m := m.step m10 (by simp)
  replace va := va.mv m10 (by simp)
  replace vb := vb.mv m10 (by simp)
  replace xm := xm.mv m10 (by simp) (by simp)
  rw [dSay2] at o10
  have hn : s10.n = 2 := o10.len
  try dsimp only
  rw [if_neg (by simp [hn])]
  have sl : SlC q10 5 ShMsg s10 [hiddenT dT2.2.2, dM] := o10.slc rfl (by simp)
  refine sl.idxF (i := 1) rfl szF_Msg (by decide) (by simp) fun b o hcs ok hel => ?_
  have ok' : ShMsg.ok dM := ok
  refine loadMsgAt (t := dM) hcs ok' ?_
  refine mkMsgs_C q10 5 [dM] rfl (by decide) (by decide) (by simpa using ok') rfl fun s11 q11 m11 o11 => ?_
  replace m := m.step m11 (by simp)
  replace va := va.mv m11 (by simp)
  replace vb := vb.mv m11 (by simp)
  replace xm := xm.mv m11 (by simp) (by simp)
  refine drwTake_spec (by decide) (by decide) (by decide) (by decide) (by decide) va xm s11 _ (o11.slc rfl (by simp)) fun q12 m12 xm va => ⟨_, rfl, ?_⟩
  have e6 : takeT23 false dT2.2.1 dT1.2.2 [dM] = dT3 := rfl
  rw [e6] at xm va ⊢
  replace m := m.step m12 (by simp)
  replace vb := vb.mv m12 (by simp)
  try dsimp only
  rw [dT3_0, if_neg (by simp)]
  refine drwWhite_spec va ?_
  rw [dW1]
  refine ⟨(1, true), rfl, ?_⟩
  refine drwWhite_spec vb ?_
  rw [dW2]
  refine ⟨(1, true), rfl, ?_⟩
  refine drwSide_spec vb ?_
  rw [dS2]
  refine ⟨(0, true), rfl, ?_⟩
  try dsimp only
  rw [if_pos rfl, if_pos rfl, if_pos rfl, if_pos (by rfl), if_pos (by rfl)]
  exact H (g.via q12 fun _ => 0) (m.via (by simp) _)

/-! ### Coins of a table -/
def cnTh (game : List Int) (p b : Int) (nonce : List Int) : ShThing.T := thS (hideB ++ bodyB22 nonce (coinRows game p b))
theorem cnBody_len {game : List Int} {p b : Int} {nonce : List Int} (hg : game.length = 32) (hn : nonce.length = 32) : (bodyB22 nonce (coinRows game p b)).length = 86 := by
  simp [bodyB22, rowsB, coinRows, runB, fourB, coinB, hg, hn]
theorem bitT_iff {n : Int} : bitT n = true ↔ n = 0 ∨ n = 1 := by unfold bitT; simp
theorem coinT_tab (A : List ShThing.T) {game : List Int} {p b : Int} {nonce : List Int} (hg : game.length = 32) (hn : nonce.length = 32) (hp : p = 0 ∨ p = 1) (hb : b = 0 ∨ b = 1) :
    coinT false A game p b nonce = (numT ((askT A (cnTh game p b nonce)).1 : Int), 0, (askT A (cnTh game p b nonce)).2) := by
  unfold coinT someT
  rw [if_pos (by rw [bitT_iff.2 hp, bitT_iff.2 hb]; rfl)]
  unfold coverT
  rw [if_pos (by rw [cnBody_len hg hn]; omega)]
  unfold sum2
  rw [if_neg (by simp)]
  rfl
theorem wrapU8_bit {n : Int} (h : n = 0 ∨ n = 1) : IntKind.u8.wrap n = n := by rw [wrapU8_mod]; omega
theorem cnTh_inj {game : List Int} {p q b c : Int} {nonce other : List Int} (hg : game.length = 32 ∧ ∀ z ∈ game, isByte z) (h1 : nonce.length = 32 ∧ ∀ z ∈ nonce, isByte z) (h2 : other.length = 32 ∧ ∀ z ∈ other, isByte z) (hp : p = 0 ∨ p = 1) (hq : q = 0 ∨ q = 1) (hb : b = 0 ∨ b = 1) (hc : c = 0 ∨ c = 1)
    (h : cnTh game p b nonce = cnTh game q c other) : p = q ∧ b = c ∧ nonce = other := by
  have byt : ∀ (p b : Int) (o : List Int), (∀ w ∈ o, isByte w) → ∀ w ∈ hideB ++ bodyB22 o (coinRows game p b), isByte w := by
    intro p b o ho w hw
    rcases List.mem_append.1 hw with hw | hw
    · simp only [hideB, List.mem_cons, List.mem_nil_iff, or_false] at hw
      rcases hw with rfl | rfl | rfl | rfl <;> (unfold isByte; omega)
    rcases List.mem_append.1 hw with hw | hw
    · obtain ⟨r, k1, k2⟩ := List.mem_flatten.1 hw
      obtain ⟨xs, k3, rfl⟩ := List.mem_map.1 k1
      rcases List.mem_append.1 k2 with k2 | k2
      · simp only [fourB, List.mem_cons, List.mem_nil_iff, or_false] at k2
        rcases k2 with rfl | rfl | rfl | rfl <;> exact isByte_wrap _
      · simp only [coinRows, List.mem_cons, List.mem_nil_iff, or_false] at k3
        rcases k3 with rfl | rfl | rfl | rfl
        · simp only [coinB, List.mem_cons, List.mem_nil_iff, or_false] at k2
          rcases k2 with rfl | rfl | rfl | rfl <;> (unfold isByte; omega)
        · exact hg.2 w k2
        · simp only [List.mem_cons, List.mem_nil_iff, or_false] at k2
          rw [k2]; exact isByte_wrap _
        · simp only [List.mem_cons, List.mem_nil_iff, or_false] at k2
          rw [k2]; exact isByte_wrap _
    · exact ho w hw
  have e := strOf_inj (byt p b nonce h1.2) (byt q c other h2.2) (congrArg (fun x : ShThing.T => x.2.2.1) h)
  have e2 := List.append_cancel_left e
  have e3 := List.append_inj e2 (by simp [rowsB, coinRows, runB, fourB, coinB, hg.1])
  have e4 := e3.1
  simp only [rowsB, coinRows, runB, List.map_cons, List.map_nil, List.flatten_cons, List.flatten_nil, List.append_nil] at e4
  have e5 := List.append_cancel_left (List.append_cancel_left e4)
  have e6 := List.append_inj e5 (by simp [fourB])
  have a1 := List.append_cancel_left e6.1
  have a2 := List.append_cancel_left e6.2
  simp only [List.cons.injEq, and_true] at a1 a2
  rw [wrapU8_bit hp, wrapU8_bit hq] at a1
  rw [wrapU8_bit hb, wrapU8_bit hc] at a2
  exact ⟨a1, a2, e3.2⟩
theorem and1 (n : Int) : IntKind.i64.wrap (BitVec.ofInt (IntKind.bits .i64) n &&& BitVec.ofInt (IntKind.bits .i64) 1).toNat = 0 ∨ IntKind.i64.wrap (BitVec.ofInt (IntKind.bits .i64) n &&& BitVec.ofInt (IntKind.bits .i64) 1).toNat = 1 := by
  have h : (BitVec.ofInt (IntKind.bits .i64) n &&& BitVec.ofInt (IntKind.bits .i64) 1).toNat = 0 ∨ (BitVec.ofInt (IntKind.bits .i64) n &&& BitVec.ofInt (IntKind.bits .i64) 1).toNat = 1 := by
    rw [BitVec.toNat_and]
    have e : (BitVec.ofInt (IntKind.bits .i64) 1).toNat = 1 := by decide
    rw [e, Nat.and_one_is_mod]
    omega
  rcases h with h | h <;> rw [h] <;> decide

/-! ### Toss -/
abbrev ShToss : Sh := .pair ShTag (.pair (.int .i64) (.pair (.int .i64) (.pair (.int .i64) (.pair ShTag (.pair ShTag .unit)))))
abbrev TossT := List Int × Int × Int × Int × List Int × List Int × Unit
abbrev TossT.game (t : TossT) : List Int := t.1
abbrev TossT.player (t : TossT) : Int := t.2.1
abbrev TossT.own (t : TossT) : Int := t.2.2.1
abbrev TossT.other (t : TossT) : Int := t.2.2.2.1
abbrev TossT.nonce (t : TossT) : List Int := t.2.2.2.2.1
abbrev TossT.theirs (t : TossT) : List Int := t.2.2.2.2.2.1
structure TossAt (g : GH) (c b o : Nat) (t : TossT) : Prop where
  game : CellsC g c b o (ShTag.enc t.game)
  player : CellsC g c b (o + 32) [.int .i64 t.player]
  own : CellsC g c b (o + 33) [.int .i64 t.own]
  other : CellsC g c b (o + 34) [.int .i64 t.other]
  nonce : CellsC g c b (o + 35) (ShTag.enc t.nonce)
  theirs : CellsC g c b (o + 67) (ShTag.enc t.theirs)
theorem tossAt {g : GH} {c b o : Nat} {t : TossT} (ok : ShToss.ok t) (h : CellsC g c b o (ShToss.enc t)) : TossAt g c b o t := by
  have h1 := cellsSnd (n := 32) h (lenTag ok.1)
  have h2 := cellsSnd (n := 1) h1 rfl
  have h3 := cellsSnd (n := 1) h2 rfl
  have h4 := cellsSnd (n := 1) h3 rfl
  have h5 := cellsSnd (n := 32) h4 (lenTag ok.2.2.2.2.1)
  exact ⟨cellsFst h, cellsFst h1, cellsTo (cellsFst h2) (by omega), cellsTo (cellsFst h3) (by omega), cellsTo (cellsFst h4) (by omega), cellsTo (cellsFst h5) (by omega)⟩
theorem szToss : sizeOfT Try.prog T.zugzwanglaw23_Toss = 99 := by kernel_rfl

end Go.Proofs.Ytgllngcoclnpeaa
