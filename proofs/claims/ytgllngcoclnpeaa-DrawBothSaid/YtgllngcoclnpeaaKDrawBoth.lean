/-
  The statement DrawBoth.
-/
import Derived.Test.YtgllngcoclnpeaaKLaw23
set_option linter.unusedSimpArgs false
set_option linter.unusedVariables false
namespace Go.Proofs.Ytgllngcoclnpeaa
open Go Go.Ev

/-! ### Two draws of one table, in plain Lean -/
def dD (game : List Int) (bt : Nat → Int) (nn tg : Nat → List Int) (k : Nat) (n : Int) : DrwT := (game, (k : Int), bt k, nn k, tg k, if n = 1 then zero32 else tg (1 - k), if n = 3 then bt (1 - k) else 0, false, n, ())
structure Tab23 (A : List ShThing.T) (game : List Int) (bt : Nat → Int) (nn tg : Nat → List Int) : Prop where
  hg : game.length = 32
  hn : ∀ k : Nat, k < 2 → (nn k).length = 32
  hb : ∀ k : Nat, k < 2 → bt k = 0 ∨ bt k = 1
  ht : ∀ k : Nat, k < 2 → ∃ j : Nat, idxIn (cnTh game ((k : Nat) : Int) (bt k) (nn k)) A = some j ∧ tg k = numT (j : Int)
def three (n : Int) : Prop := n = 1 ∨ n = 2 ∨ n = 3
theorem bitOk_both {n : Int} (h : n = 0 ∨ n = 1) : bitOk n = true := by unfold bitOk; simpa using h
theorem hidden_both {x : DrwT} (h : x.player = 0 ∨ x.player = 1) : rightOk (hiddenT x) = true := by
  unfold rightOk
  have h1 : kindOk (hiddenT x) = true := by unfold kindOk; rw [if_pos (show (hiddenT x).kind = 1 from rfl)]
  have h2 : bitOk (hiddenT x).sender = true := bitOk_both h
  have h3 : hasMsg (hiddenT x) = hiddenT x := by unfold hasMsg; rw [if_pos (show (hiddenT x).kind = 1 from rfl)]; rfl
  rw [h1, h2, h3]; simp
theorem open_both {x : DrwT} (h : x.player = 0 ∨ x.player = 1) (hb : x.bit = 0 ∨ x.bit = 1) : rightOk (openT23 x) = true := by
  unfold rightOk
  have h1 : kindOk (openT23 x) = true := by unfold kindOk; rw [if_neg (show ¬ (openT23 x).kind = 1 from (by decide : ¬ (2 : Int) = 1)), if_pos (show (openT23 x).kind = 2 from rfl)]; exact bitOk_both hb
  have h2 : bitOk (openT23 x).sender = true := bitOk_both h
  have h3 : hasMsg (openT23 x) = openT23 x := by unfold hasMsg; rw [if_neg (show ¬ (openT23 x).kind = 1 from (by decide : ¬ (2 : Int) = 1)), if_pos (show (openT23 x).kind = 2 from rfl)]; rfl
  rw [h1, h2, h3]; simp
theorem abort_both {x : DrwT} (h : x.player = 0 ∨ x.player = 1) : rightOk (abortT23 x) = true := by
  unfold rightOk
  have h1 : kindOk (abortT23 x) = true := by unfold kindOk; rfl
  have h2 : bitOk (abortT23 x).sender = true := bitOk_both h
  have h3 : hasMsg (abortT23 x) = abortT23 x := by unfold hasMsg; rfl
  rw [h1, h2, h3]; simp
section
variable {A : List ShThing.T} {game : List Int} {bt : Nat → Int} {nn tg : Nat → List Int} (tb : Tab23 A game bt nn tg) {k : Nat}
theorem sender_both (hk : k < 2) : ¬ ((1 - k : Nat) : Int) = (k : Int) := by omega
theorem one_hid (hk : k < 2) {n m : Int} (hn : three n) : (oneT23 false A (dD game bt nn tg k n) (hiddenT (dD game bt nn tg (1 - k) m))).2 = (A, dD game bt nn tg k (if n = 1 then 2 else n)) := by
  have hp : (dD game bt nn tg (1 - k) m).player = 0 ∨ (dD game bt nn tg (1 - k) m).player = 1 := by show ((1 - k : Nat) : Int) = 0 ∨ ((1 - k : Nat) : Int) = 1; omega
  unfold oneT23
  rw [if_neg (by simp [hidden_both hp, show (hiddenT (dD game bt nn tg (1 - k) m)).kind = 1 from rfl]), if_neg (show ¬ ¬ (hiddenT (dD game bt nn tg (1 - k) m)).game = (dD game bt nn tg k n).game from fun h => h rfl), if_neg (show ¬ (hiddenT (dD game bt nn tg (1 - k) m)).sender = (dD game bt nn tg k n).player from sender_both hk), if_pos (show (hiddenT (dD game bt nn tg (1 - k) m)).kind = 1 from rfl)]
  unfold committedT
  rcases hn with rfl | rfl | rfl
  · rw [if_neg (show ¬ (dD game bt nn tg k 1).phase = 4 from (by decide : ¬ (1 : Int) = 4)), if_pos (show (dD game bt nn tg k 1).phase = 1 from rfl), if_pos rfl]
    rfl
  · rw [if_neg (show ¬ (dD game bt nn tg k 2).phase = 4 from (by decide : ¬ (2 : Int) = 4)), if_neg (show ¬ (dD game bt nn tg k 2).phase = 1 from (by decide : ¬ (2 : Int) = 1)), if_pos (show (dD game bt nn tg k 2).theirs = (hiddenT (dD game bt nn tg (1 - k) m)).commit from rfl), if_neg (by decide)]
  · rw [if_neg (show ¬ (dD game bt nn tg k 3).phase = 4 from (by decide : ¬ (3 : Int) = 4)), if_neg (show ¬ (dD game bt nn tg k 3).phase = 1 from (by decide : ¬ (3 : Int) = 1)), if_pos (show (dD game bt nn tg k 3).theirs = (hiddenT (dD game bt nn tg (1 - k) m)).commit from rfl), if_neg (by decide)]
include tb in
theorem one_open (hk : k < 2) {n m : Int} (hn : three n) : (oneT23 false A (dD game bt nn tg k n) (openT23 (dD game bt nn tg (1 - k) m))).2 = (A, dD game bt nn tg k (if n = 1 then 1 else 3)) := by
  have hp : ((1 - k : Nat) : Int) = 0 ∨ ((1 - k : Nat) : Int) = 1 := by omega
  have hb := tb.hb (1 - k) (by omega)
  unfold oneT23
  rw [if_neg (by
    rw [open_both (x := dD game bt nn tg (1 - k) m) hp hb]
    rintro (h | h)
    · exact h rfl
    · exact h (.inr (.inl rfl))), if_neg (show ¬ ¬ (openT23 (dD game bt nn tg (1 - k) m)).game = (dD game bt nn tg k n).game from fun h => h rfl), if_neg (show ¬ (openT23 (dD game bt nn tg (1 - k) m)).sender = (dD game bt nn tg k n).player from sender_both hk), if_neg (show ¬ (openT23 (dD game bt nn tg (1 - k) m)).kind = 1 from (by decide : ¬ (2 : Int) = 1)), if_pos (show (openT23 (dD game bt nn tg (1 - k) m)).kind = 2 from rfl)]
  unfold revealedT
  obtain ⟨j, hj, ht⟩ := tb.ht (1 - k) (by omega)
  have hc : coinT false A game ((1 - k : Nat) : Int) (bt (1 - k)) (nn (1 - k)) = (numT (j : Int), 0, A) := by
    rw [coinT_tab A tb.hg (tb.hn (1 - k) (by omega)) hp hb, askT_there hj]
  have hf : fitsT (tg (1 - k)) (numT (j : Int)) 0 = 0 := by unfold fitsT; rw [if_neg (by simp), if_pos ht]
  rcases hn with rfl | rfl | rfl
  · rw [if_pos (show (dD game bt nn tg k 1).phase = 4 ∨ (dD game bt nn tg k 1).phase = 1 from .inr rfl), if_pos rfl]
  · rw [if_neg (show ¬ ((dD game bt nn tg k 2).phase = 4 ∨ (dD game bt nn tg k 2).phase = 1) from (by decide : ¬ ((2 : Int) = 4 ∨ (2 : Int) = 1)))]
    rw [show coinT false A (dD game bt nn tg k 2).game (openT23 (dD game bt nn tg (1 - k) m)).sender (openT23 (dD game bt nn tg (1 - k) m)).bit (openT23 (dD game bt nn tg (1 - k) m)).nonce = (numT (j : Int), 0, A) from hc]
    rw [if_neg (show ¬ ¬ fitsT (dD game bt nn tg k 2).theirs (numT (j : Int), 0, A).1 (numT (j : Int), 0, A).2.1 = 0 from fun h => h hf), if_neg (show ¬ (dD game bt nn tg k 2).phase = 3 from (by decide : ¬ (2 : Int) = 3)), if_neg (by decide)]
    rfl
  · rw [if_neg (show ¬ ((dD game bt nn tg k 3).phase = 4 ∨ (dD game bt nn tg k 3).phase = 1) from (by decide : ¬ ((3 : Int) = 4 ∨ (3 : Int) = 1)))]
    rw [show coinT false A (dD game bt nn tg k 3).game (openT23 (dD game bt nn tg (1 - k) m)).sender (openT23 (dD game bt nn tg (1 - k) m)).bit (openT23 (dD game bt nn tg (1 - k) m)).nonce = (numT (j : Int), 0, A) from hc]
    rw [if_neg (show ¬ ¬ fitsT (dD game bt nn tg k 3).theirs (numT (j : Int), 0, A).1 (numT (j : Int), 0, A).2.1 = 0 from fun h => h hf), if_pos (show (dD game bt nn tg k 3).phase = 3 from rfl), if_neg (by decide)]
theorem take_both (A : List ShThing.T) (x : DrwT) (w : MsgT) : takeT23 false A x [w] = oneT23 false A x w := by
  rw [takeT23_cons]
  generalize oneT23 false A x w = z
  obtain ⟨z1, z2, z3⟩ := z
  by_cases h : z1 = 0
  · rw [if_pos h, takeT23_nil, h]
  · rw [if_neg h]
theorem say_both {m : Int} (hm : three m) : sayT23 (dD game bt nn tg k m) = if m = 1 then [hiddenT (dD game bt nn tg k m)] else [hiddenT (dD game bt nn tg k m), openT23 (dD game bt nn tg k m)] := by
  unfold sayT23
  rw [if_neg (show ¬ (dD game bt nn tg k m).given = true from (by decide : ¬ false = true))]
  rcases hm with rfl | rfl | rfl
  · rw [if_neg (show ¬ (dD game bt nn tg k 1).phase = 4 from (by decide : ¬ (1 : Int) = 4))]; rfl
  · rw [if_neg (show ¬ (dD game bt nn tg k 2).phase = 4 from (by decide : ¬ (2 : Int) = 4))]; rfl
  · rw [if_neg (show ¬ (dD game bt nn tg k 3).phase = 4 from (by decide : ¬ (3 : Int) = 4))]; rfl
theorem say_len2 {m : Int} (hm : three m) : (sayT23 (dD game bt nn tg k m)).length = if m = 1 then 1 else 2 := by
  rw [say_both hm]; split <;> rfl
include tb in
/-- Whatever one of them is told of what the other says. -/
theorem any_both (hk : k < 2) {n m : Int} (hn : three n) (hm : three m) {i : Nat} (hi : i < (sayT23 (dD game bt nn tg (1 - k) m)).length) :
    ∃ n' : Int, (takeT23 false A (dD game bt nn tg k n) [(sayT23 (dD game bt nn tg (1 - k) m))[i]]).2 = (A, dD game bt nn tg k n') ∧ three n' ∧ (n = 3 → n' = 3) ∧ (¬ n = 1 → ¬ n' = 1) ∧ (n' = 3 → n = 3 ∨ ¬ m = 1) ∧ (i = 0 → ¬ n' = 1) ∧ (i = 1 → ¬ n = 1 → n' = 3) := by
  have hl := hi
  rw [say_len2 hm] at hl
  have e0 : ∀ h, (sayT23 (dD game bt nn tg (1 - k) m))[0]'h = hiddenT (dD game bt nn tg (1 - k) m) := by
    rw [say_both hm]; intro h; split <;> rfl
  by_cases h0 : i = 0
  · subst h0
    rw [e0, take_both, one_hid hk hn]
    refine ⟨_, rfl, ?_⟩
    unfold three at *
    by_cases h : n = 1
    · rw [if_pos h]; omega
    · rw [if_neg h]; omega
  · by_cases hm1 : m = 1
    · rw [if_pos hm1] at hl; omega
    rw [if_neg hm1] at hl
    have h1 : i = 1 := by omega
    subst h1
    have e1 : (sayT23 (dD game bt nn tg (1 - k) m))[1]'hi = openT23 (dD game bt nn tg (1 - k) m) := by
      simp only [say_both hm, if_neg hm1]; rfl
    rw [e1, take_both, one_open tb hk hn]
    refine ⟨_, rfl, ?_⟩
    unfold three at *
    by_cases h : n = 1
    · rw [if_pos h]; omega
    · rw [if_neg h]; omega
theorem abort_step (hk : k < 2) {n m : Int} (hn : three n) (hm : three m) (hm3 : ¬ m = 3) (hn3 : ¬ n = 3) :
    (abortOne (dD game bt nn tg k n)).2 = withPhase (dD game bt nn tg k n) 4 ∧ sayT23 (withPhase (dD game bt nn tg k n) 4) = [abortT23 (withPhase (dD game bt nn tg k n) 4)] ∧
    ∃ y : DrwT, (takeT23 false A (dD game bt nn tg (1 - k) m) [abortT23 (withPhase (dD game bt nn tg k n) 4)]).2 = (A, y) ∧ y.phase = 4 ∧ sayT23 y = [] := by
  unfold three at hn hm
  refine ⟨?_, ?_, ?_⟩
  · unfold abortOne; rw [if_neg (show ¬ ((dD game bt nn tg k n).phase = 3 ∨ (dD game bt nn tg k n).phase = 4) from (by omega : ¬ (n = 3 ∨ n = 4)))]
  · unfold sayT23; rw [if_neg (show ¬ (withPhase (dD game bt nn tg k n) 4).given = true from (by decide : ¬ false = true)), if_pos (show (withPhase (dD game bt nn tg k n) 4).phase = 4 from rfl)]
  · have hp : (k : Int) = 0 ∨ (k : Int) = 1 := by omega
    rw [take_both]
    unfold oneT23
    rw [if_neg (by
      rw [abort_both (x := withPhase (dD game bt nn tg k n) 4) hp]
      rintro (h | h)
      · exact h rfl
      · exact h (.inr (.inr rfl))), if_neg (show ¬ ¬ (abortT23 (withPhase (dD game bt nn tg k n) 4)).game = (dD game bt nn tg (1 - k) m).game from fun h => h rfl), if_neg (show ¬ (abortT23 (withPhase (dD game bt nn tg k n) 4)).sender = (dD game bt nn tg (1 - k) m).player from (by omega : ¬ (k : Int) = ((1 - k : Nat) : Int))), if_neg (show ¬ (abortT23 (withPhase (dD game bt nn tg k n) 4)).kind = 1 from (by decide : ¬ (4 : Int) = 1)), if_neg (show ¬ (abortT23 (withPhase (dD game bt nn tg k n) 4)).kind = 2 from (by decide : ¬ (4 : Int) = 2))]
    refine ⟨_, rfl, ?_⟩
    unfold leftT
    rw [if_neg (show ¬ ((dD game bt nn tg (1 - k) m).phase = 4 ∧ (dD game bt nn tg (1 - k) m).given = true) from fun h => by cases h.2), if_neg (show ¬ ((dD game bt nn tg (1 - k) m).phase = 4 ∨ (dD game bt nn tg (1 - k) m).phase = 3) from (by omega : ¬ (m = 4 ∨ m = 3)))]
    exact ⟨rfl, rfl⟩
end
theorem idxAt23 {sz : Nat} {g : GH} {c : Nat} {s : Sl} {vs : List Value} {i : Int} {K : Addr → Prop} (r : RdC 1 g c s vs) (hsz : sz = 1) (h0 : 0 ≤ i) (hi : i.toNat < vs.length)
    (hK : ∀ a : Addr, (∀ (q : GH) (k : Kd) (x : k.T) (L : k.T → Prop), RdC 1 q c s vs → vs[i.toNat]? = some (k.inj x) → L x → loadK k q.h (some a) L) → K a) : idxK s i sz K := by
  subst hsz
  rcases r.rd.2 with hn | ⟨b, o, cs, e, fz, ha, hb, hc⟩
  · subst hn; simp at hi
  · refine ⟨_, ha, ⟨h0, by rw [r.rd.len]; omega⟩, ?_⟩
    rw [Nat.mul_one, addr_add]
    refine hK _ ?_
    intro q k x L r' hx hL
    rcases r'.rd.2 with hn | ⟨b', o', c', e', fz', ha', hb', hc'⟩
    · subst hn; simp at hi
    · rw [ha] at ha'
      cases ha'
      exact ⟨b, o + i.toNat, c', e', fz', x, rfl, hb', by rw [hc' _ hi]; exact hx, hL⟩
theorem half23 {v : Int} (h : -9223372036854775808 ≤ v ∧ v ≤ 9223372036854775807) : -9223372036854775808 ≤ Int.fdiv v (2 ^ min (Int.toNat 1) (IntKind.bits .i64)) ∧ Int.fdiv v (2 ^ min (Int.toNat 1) (IntKind.bits .i64)) ≤ 9223372036854775807 := by
  rw [show (2 : Int) ^ min (Int.toNat 1) (IntKind.bits .i64) = 2 from by decide, Int.fdiv_eq_ediv_of_nonneg v (by decide : (0 : Int) ≤ 2)]
  omega

/-! ### The walk -/
set_option maxHeartbeats 4000000 in
theorem DrawBoth_spec (g : GH) (game : List Int) (okg : ShTag.ok game) (bits : Int) (s : Sl) (l : List Int) (hl : SlC g 0 (.int .i64) s l) {R : Value → Heap → Prop} (H : ∀ g' : GH, Mv [] g g' → R (.bool true) g'.h) :
    HC Try.prog F.law23_DrawBoth #[.agg (tagA game), .int .i64 bits, .slice s.a s.n s.c] R g.h := by
  refine law23_DrawBoth.calls (steps2 := s) ?_
  unfold law23_DrawBoth.body
  have hn : s.n = l.length := hl.len
  have hgb := okTagB okg
  have m := Mv.refl [1, 2, 3, 4, 5, 6, 7, 8] g.base
  have fin : ∀ q : GH, Mv [1, 2, 3, 4, 5, 6, 7, 8] g.base q → R (.bool true) q.h := fun q m => H (g.via q fun _ => 0) (m.via (by simp) _)
  have hl0 : ∀ q : GH, Mv [1, 2, 3, 4, 5, 6, 7, 8] g.base q → RdC 1 q 0 s (l.map (.int .i64)) := fun q m => (SlC.ints (hl.arg m (by simp))).1
  have okl : ∀ x ∈ l, -9223372036854775808 ≤ x ∧ x ≤ 9223372036854775807 := fun x hx => (SlC.ints hl).2 x hx
  have okn : ∀ n : Int, ShTag.ok (numT n) := fun n => okTag (numT_length n) (numT_byte n)
  refine new_C g.base 3 fun pg q1 m1 bg => ?_
  replace m := m.step m1 (by simp)
  refine awake23_spec q1 fun q2 m2 => ⟨_, rfl, ?_⟩
  replace m := m.step m2 (by simp)
  replace bg := bg.mv m2 (by simp)
  try dsimp only
  rw [if_neg (by simp)]
  by_cases hbig : (s.n : Int) > 120
  · rw [if_pos (by simpa using hbig)]; exact fin q2 m
  rw [if_neg (by simpa using hbig)]
  refine makNew_spec q2 1 2 false ⟨none, 0, 0⟩ [] (RdC.nil _ _ 0 _ _) (by simp) (by simp) fun pm q3 m3 xm => ⟨_, rfl, ?_⟩
  replace m := m.step m3 (by simp)
  replace bg := bg.mv m3 (by simp)
  refine loadAgg_whole bg (tagA_size hgb.1) ?_
  refine drawTab_spec (by decide) xm 0 (by decide) fun q4 m4 xm => ⟨_, rfl, ?_⟩
  generalize (askT [] (thD 0)).2 = B0 at xm
  generalize (askT [] (thD 0)).1 = j0
  replace m := m.step m4 (by simp)
  replace bg := bg.mv m4 (by simp)
  refine ⟨stillAgg_whole bg (tagA_size hgb.1), ?_⟩
  have hb0 := and1 bits
  generalize IntKind.i64.wrap (BitVec.ofInt (IntKind.bits .i64) bits &&& BitVec.ofInt (IntKind.bits .i64) 1).toNat = b0 at hb0 ⊢
  have hc0 := coinT_tab B0 (p := 0) (b := b0) (nonce := numT (j0 : Int)) hgb.1 (numT_length _) (.inl rfl) hb0
  refine drwNew_spec (by decide) xm game okg 0 b0 (by decide) (by omega) (numT (j0 : Int)) (okn _) 4 (fun _ pa q5 m5 xm va => ⟨(_, _), rfl, ?_⟩) (fun h => absurd (by rw [hc0]) h)
  rw [hc0] at xm va
  have i0 := askT_idx B0 (cnTh game 0 b0 (numT (j0 : Int)))
  generalize (askT B0 (cnTh game 0 b0 (numT (j0 : Int)))).2 = A0 at xm i0
  generalize (askT B0 (cnTh game 0 b0 (numT (j0 : Int)))).1 = k0 at va i0
  replace m := m.step m5 (by simp)
  replace bg := bg.mv m5 (by simp)
  refine ⟨by decide, ?_⟩
  refine loadAgg_whole bg (tagA_size hgb.1) ?_
  refine drawTab_spec (by decide) xm 1 (by decide) fun q6 m6 xm => ⟨_, rfl, ?_⟩
  have s1 := askT_since A0 (thD 1)
  generalize (askT A0 (thD 1)).2 = B1 at xm s1
  generalize (askT A0 (thD 1)).1 = j1
  replace m := m.step m6 (by simp)
  replace bg := bg.mv m6 (by simp)
  replace va := va.mv m6 (by simp)
  refine ⟨stillAgg_whole bg (tagA_size hgb.1), ?_⟩
  have hb1 := and1 (Int.fdiv bits (2 ^ min (Int.toNat 1) (IntKind.bits .i64)))
  generalize IntKind.i64.wrap (BitVec.ofInt (IntKind.bits .i64) (Int.fdiv bits (2 ^ min (Int.toNat 1) (IntKind.bits .i64))) &&& BitVec.ofInt (IntKind.bits .i64) 1).toNat = b1 at hb1 ⊢
  have hc1 := coinT_tab B1 (p := 1) (b := b1) (nonce := numT (j1 : Int)) hgb.1 (numT_length _) (.inr rfl) hb1
  refine drwNew_spec (by decide) xm game okg 1 b1 (by decide) (by omega) (numT (j1 : Int)) (okn _) 5 (fun _ pb q7 m7 xm vb => ⟨(_, _), rfl, ?_⟩) (fun h => absurd (by rw [hc1]) h)
  rw [hc1] at xm vb
  have i1 := askT_idx B1 (cnTh game 1 b1 (numT (j1 : Int)))
  have i0' := (askT_since B1 (cnTh game 1 b1 (numT (j1 : Int)))).idx (s1.idx i0)
  generalize (askT B1 (cnTh game 1 b1 (numT (j1 : Int)))).2 = A at xm i1 i0'
  generalize (askT B1 (cnTh game 1 b1 (numT (j1 : Int)))).1 = k1 at vb i1
  replace m := m.step m7 (by simp)
  replace va := va.mv m7 (by simp)
  try dsimp only at xm va vb ⊢
  rw [if_neg (by simp), if_neg (by simp)]
  obtain ⟨P, hP0, hP1⟩ : ∃ P : Nat → Nat, P 0 = pa ∧ P 1 = pb := ⟨fun k => if k = 0 then pa else pb, rfl, rfl⟩
  obtain ⟨bt, hbt0, hbt1⟩ : ∃ f : Nat → Int, f 0 = b0 ∧ f 1 = b1 := ⟨fun k => if k = 0 then b0 else b1, rfl, rfl⟩
  obtain ⟨nn, hnn0, hnn1⟩ : ∃ f : Nat → List Int, f 0 = numT (j0 : Int) ∧ f 1 = numT (j1 : Int) := ⟨fun k => if k = 0 then numT (j0 : Int) else numT (j1 : Int), rfl, rfl⟩
  obtain ⟨tg, htg0, htg1⟩ : ∃ f : Nat → List Int, f 0 = numT (k0 : Int) ∧ f 1 = numT (k1 : Int) := ⟨fun k => if k = 0 then numT (k0 : Int) else numT (k1 : Int), rfl, rfl⟩
  have two : ∀ {p : Nat → Prop}, p 0 → p 1 → ∀ k < 2, p k := by
    intro p h0 h1 k hk
    rcases (show k = 0 ∨ k = 1 by omega) with rfl | rfl
    · exact h0
    · exact h1
  have tb : Tab23 A game bt nn tg := ⟨hgb.1, two (by rw [hnn0]; exact numT_length _) (by rw [hnn1]; exact numT_length _), two (by rw [hbt0]; exact hb0) (by rw [hbt1]; exact hb1), two (p := fun k => ∃ j : Nat, idxIn (cnTh game ((k : Nat) : Int) (bt k) (nn k)) A = some j ∧ tg k = numT (j : Int)) ⟨k0, by rw [hbt0, hnn0]; exact i0', htg0⟩ ⟨k1, by rw [hbt1, hnn1]; exact i1, htg1⟩⟩
  have V : ∀ j < 2, DrwC q7 (4 + j) (P j) pm (dD game bt nn tg j 1) := two (by
    have e : dD game bt nn tg 0 1 = newT23 game 0 b0 (numT (j0 : Int)) (numT (k0 : Int)) := by unfold dD newT23; rw [hbt0, hnn0, htg0]; rfl
    rw [e, hP0]; exact va) (by
    have e : dD game bt nn tg 1 1 = newT23 game 1 b1 (numT (j1 : Int)) (numT (k1 : Int)) := by unfold dD newT23; rw [hbt1, hnn1, htg1]; rfl
    rw [e, hP1]; exact vb)
  refine newSl_C q7 6 rfl fun sd q8 m8 od hsd _ => ?_
  replace m := m.step m8 (by simp)
  replace xm := xm.mv m8 (by simp) (by simp)
  replace V : ∀ j < 2, DrwC q8 (4 + j) (P j) pm (dD game bt nn tg j 1) := fun j hj => (V j hj).mv m8 (by simp)
  have rd : RdC 1 q8 6 sd [.pointer (some ⟨P 0, 0, none⟩), .pointer (some ⟨P 1, 0, none⟩)] := by rw [hP0, hP1]; exact od.rd
  rw [← hP0, ← hP1, ← hbt0, ← hbt1]
  have ptr : ∀ k < 2, ([.pointer (some ⟨P 0, 0, none⟩), .pointer (some ⟨P 1, 0, none⟩)] : List Value)[((k : Nat) : Int).toNat]? = some (Kd.inj .ptr (some ⟨P k, 0, none⟩)) := two rfl rfl
  clear va vb od hc0 hc1 i0 i1 i0' s1 bg m1 m2 m3 m4 m5 m6 m7 m8
  -- one message of what the other says
  have stepS : ∀ (q : GH) (n : Nat → Int) (k : Nat), k < 2 → Mv [1, 2, 3, 4, 5, 6, 7, 8] g.base q → RdC 1 q 6 sd [.pointer (some ⟨P 0, 0, none⟩), .pointer (some ⟨P 1, 0, none⟩)] → MakC q 1 2 pm false [] A → (∀ j < 2, DrwC q (4 + j) (P j) pm (dD game bt nn tg j (n j))) → (∀ j < 2, three (n j)) →
      ∀ (c : Nat) (s1 : Sl) (i : Nat) (mm : Int), ¬ c = 2 → ¬ c = 4 → ¬ c = 5 → three mm → (hi : i < (sayT23 (dD game bt nn tg (1 - k) mm)).length) → SlC q c ShMsg s1 [(sayT23 (dD game bt nn tg (1 - k) mm))[i]] → ∀ {R' : Value → Heap → Prop},
      (∀ (q' : GH) (n' : Int) (r : Int), Mv [2, 4, 5] q q' → MakC q' 1 2 pm false [] A → (∀ j < 2, DrwC q' (4 + j) (P j) pm (dD game bt nn tg j (if j = k then n' else n j))) → three n' → (n k = 3 → n' = 3) → (¬ n k = 1 → ¬ n' = 1) → (n' = 3 → n k = 3 ∨ ¬ mm = 1) → (i = 0 → ¬ n' = 1) → (i = 1 → ¬ n k = 1 → n' = 3) → R' (.int .i64 r) q'.h) →
      HC Try.prog F.draw_Draw_Take #[.pointer (some ⟨P k, 0, none⟩), .slice s1.a s1.n s1.c] R' q.h := by
    intro q n k hk m rd xm V h3 c s1 i mm hc2 hc4 hc5 hm hi ho R' H'
    obtain ⟨n', e, f1, f2, f3, f4, f5, f6⟩ := any_both tb hk (h3 k hk) hm hi
    refine drwTake_spec (by decide) (by omega) (by omega) (by omega) (by omega) (V k hk) xm s1 _ ho fun q' m' xm' v' => ?_
    rw [e] at xm' v'
    refine H' q' n' _ (m'.mono (by intro z hz; simp at hz; simp; omega)) xm' (fun j hj => ?_) f1 f2 f3 f4 f5 f6
    by_cases hjk : j = k
    · subst hjk; rw [if_pos rfl]; exact v'
    · rw [if_neg hjk]
      exact (V j hj).mv m' (by simp; omega)
  refine loopW_rule (fun st h' => ∃ (i : Nat) (q : GH) (n : Nat → Int), i ≤ l.length ∧ st = (i : Int) ∧ h' = q.h ∧ Mv [1, 2, 3, 4, 5, 6, 7, 8] g.base q ∧ RdC 1 q 6 sd [.pointer (some ⟨P 0, 0, none⟩), .pointer (some ⟨P 1, 0, none⟩)] ∧ MakC q 1 2 pm false [] A ∧ (∀ j < 2, DrwC q (4 + j) (P j) pm (dD game bt nn tg j (n j))) ∧ (∀ j < 2, three (n j)) ∧ (∀ j < 2, n j = 3 → ¬ n (1 - j) = 1)) (fun st => l.length - st.toNat)
    ⟨0, q8, fun _ => 1, by omega, rfl, rfl, m, rd, xm, V, fun _ _ => .inl rfl, fun _ _ h => absurd (show (1 : Int) = 3 from h) (by decide)⟩ ?_
  clear m rd xm V
  rintro X _ _ ⟨i, q, n, hi, rfl, rfl, m, rd, xm, V, h3, inv⟩ hX
  try dsimp only
  by_cases hlt : i < l.length
  · rw [if_pos (by simp; omega)]
    have hv : (l.map (Value.int .i64))[((i : Int)).toNat]? = some (Kd.inj (.int .i64) l[i]) := by simp [hlt]; rfl
    have hvb := okl l[i] (List.getElem_mem hlt)
    refine idxLoad_C (hl0 q m) (by kernel_rfl) (by omega) l[i] hv ?_
    have hk' := and1 l[i]
    generalize l[i] = v at hv hvb hk' ⊢
    obtain ⟨k, hk, hkv⟩ : ∃ k : Nat, k < 2 ∧ IntKind.i64.wrap (BitVec.ofInt (IntKind.bits .i64) v &&& BitVec.ofInt (IntKind.bits .i64) 1).toNat = (k : Int) := by
      rcases hk' with h | h
      · exact ⟨0, by omega, h⟩
      · exact ⟨1, by omega, h⟩
    rw [hkv]
    have hko : IntKind.i64.wrap (1 - (k : Int)) = ((1 - k : Nat) : Int) := by rw [wrapI64 (by omega) (by omega)]; omega
    rw [hko]
    have hk1 : 1 - k < 2 := by omega
    refine idxLoad_C rd (by kernel_rfl) (by omega) (some ⟨P (1 - k), 0, none⟩) (ptr _ hk1) ?_
    refine drwSay_spec (V (1 - k) hk1) 7 fun s1 q1 m1 o1 => ⟨_, rfl, ?_⟩
    replace m := m.step m1 (by simp)
    replace rd := rd.mv m1 (by simp)
    replace xm := xm.mv m1 (by simp) (by simp)
    replace V : ∀ j < 2, DrwC q1 (4 + j) (P j) pm (dD game bt nn tg j (n j)) := fun j hj => (V j hj).mv m1 (by simp)
    have sl2 := say_len2 (game := game) (bt := bt) (nn := nn) (tg := tg) (k := 1 - k) (h3 (1 - k) hk1)
    have o1 : SlC q1 7 ShMsg s1 (sayT23 (dD game bt nn tg (1 - k) (n (1 - k)))) := o1.slc rfl (by rw [sl2]; split <;> omega)
    have hs1 : s1.n = if n (1 - k) = 1 then 1 else 2 := by rw [o1.len, sl2]
    refine joinW_intro (fun st h' => h' = q1.h ∧ (st = true → ¬ n 0 = 3 ∧ ¬ n 1 = 3)) ?_ ?_
    · intro J hJ
      refine idxLoad_C (hl0 q1 m) (by kernel_rfl) (by omega) v hv ?_
      refine ⟨by decide, ?_⟩
      by_cases h15 : (IntKind.i64.wrap (BitVec.ofInt (IntKind.bits .i64) (Int.fdiv v (2 ^ min (Int.toNat 4) (IntKind.bits .i64))) &&& BitVec.ofInt (IntKind.bits .i64) 15).toNat == 15) = true
      rotate_left
      · rw [if_neg h15]; exact hJ _ _ ⟨rfl, fun h => by cases h⟩
      rw [if_pos h15]
      refine idxLoad_C rd (by kernel_rfl) (by omega) (some ⟨P 0, 0, none⟩) (ptr 0 (by omega)) ?_
      refine drwPhase_spec (V 0 (by omega)) ⟨_, rfl, ?_⟩
      try dsimp only
      by_cases h0 : n 0 = 3
      · rw [if_neg (by simpa using (show (dD game bt nn tg 0 (n 0)).phase = 3 from h0))]; exact hJ _ _ ⟨rfl, fun h => by cases h⟩
      rw [if_pos (by simpa using (show ¬ (dD game bt nn tg 0 (n 0)).phase = 3 from h0))]
      refine idxLoad_C rd (by kernel_rfl) (by omega) (some ⟨P 1, 0, none⟩) (ptr 1 (by omega)) ?_
      refine drwPhase_spec (V 1 (by omega)) ⟨_, rfl, ?_⟩
      try dsimp only
      refine hJ _ _ ⟨rfl, fun h => ⟨h0, ?_⟩⟩
      have h' : ¬ (dD game bt nn tg 1 (n 1)).phase = 3 := by simpa using (show ((dD game bt nn tg 1 (n 1)).phase != 3) = true from h)
      exact h'
    rintro st _ ⟨rfl, hst⟩
    try dsimp only
    cases st with
    | true =>
      rw [if_pos rfl]
      obtain ⟨z0, z1⟩ := hst rfl
      have hn3 : ∀ j < 2, ¬ n j = 3 := two z0 z1
      obtain ⟨ab, say, y, ey, yp, ys⟩ := abort_step (A := A) (game := game) (bt := bt) (nn := nn) (tg := tg) hk (h3 k hk) (h3 (1 - k) hk1) (hn3 _ hk1) (hn3 _ hk)
      refine idxLoad_C rd (by kernel_rfl) (by omega) (some ⟨P k, 0, none⟩) (ptr k hk) ?_
      refine drwAbort_spec (V k hk) fun q2 m2 v2 => ⟨_, rfl, ?_⟩
      rw [ab] at v2
      replace m := m.step m2 (by simp; omega)
      replace rd := rd.mv m2 (by simp; omega)
      replace xm := xm.mv m2 (by simp; omega) (by simp; omega)
      have v1 := (V (1 - k) hk1).mv m2 (by simp; omega)
      refine idxAt23 rd (by kernel_rfl) (by omega) (by simp; omega) fun a1 l1 => ?_
      refine idxAt23 rd (by kernel_rfl) (by omega) (by simp; omega) fun a2 l2 => ?_
      refine l1 q2 .ptr (some ⟨P (1 - k), 0, none⟩) _ rd (ptr _ hk1) ?_
      refine l2 q2 .ptr (some ⟨P k, 0, none⟩) _ rd (ptr _ hk) ?_
      refine drwSay_spec v2 7 fun s3 q3 m3 o3 => ⟨_, rfl, ?_⟩
      rw [say] at o3
      replace m := m.step m3 (by simp)
      replace rd := rd.mv m3 (by simp)
      replace xm := xm.mv m3 (by simp) (by simp)
      replace v1 := v1.mv m3 (by simp)
      replace v2 := v2.mv m3 (by simp)
      refine ⟨l1 q3 .ptr (some ⟨P (1 - k), 0, none⟩) _ rd (ptr _ hk1) rfl, ?_⟩
      refine drwTake_spec (by decide) (by omega) (by omega) (by omega) (by omega) v1 xm s3 _ (o3.slc rfl (by simp)) fun q4 m4 xm v1 => ⟨_, rfl, ?_⟩
      rw [ey] at xm v1
      replace m := m.step m4 (by simp; omega)
      replace rd := rd.mv m4 (by simp; omega)
      replace v2 := v2.mv m4 (by simp; omega)
      obtain ⟨z, hzk, hz1⟩ : ∃ z : Nat → DrwT, z k = withPhase (dD game bt nn tg k (n k)) 4 ∧ z (1 - k) = y := ⟨fun j => if j = k then withPhase (dD game bt nn tg k (n k)) 4 else y, if_pos rfl, if_neg (by omega)⟩
      have W : ∀ j < 2, DrwC q4 (4 + j) (P j) pm (z j) ∧ (z j).phase = 4 := by
        intro j hj
        rcases (show j = k ∨ j = 1 - k by omega) with rfl | rfl
        · rw [hzk]; exact ⟨v2, rfl⟩
        · rw [hz1]; exact ⟨v1, yp⟩
      refine idxLoad_C rd (by kernel_rfl) (by omega) (some ⟨P 0, 0, none⟩) (ptr 0 (by omega)) ?_
      refine drwPhase_spec (W 0 (by omega)).1 ⟨_, rfl, ?_⟩
      try dsimp only
      rw [if_pos (by simpa using (W 0 (by omega)).2)]
      refine idxLoad_C rd (by kernel_rfl) (by omega) (some ⟨P 1, 0, none⟩) (ptr 1 (by omega)) ?_
      refine drwPhase_spec (W 1 (by omega)).1 ⟨_, rfl, ?_⟩
      try dsimp only
      rw [if_pos (by simpa using (W 1 (by omega)).2)]
      refine idxAt23 rd (by kernel_rfl) (by omega) (by simp; omega) fun a3 l3 => ?_
      refine idxAt23 rd (by kernel_rfl) (by omega) (by simp; omega) fun a4 l4 => ?_
      refine l3 q4 .ptr (some ⟨P k, 0, none⟩) _ rd (ptr _ hk) ?_
      refine l4 q4 .ptr (some ⟨P (1 - k), 0, none⟩) _ rd (ptr _ hk1) ?_
      refine drwSay_spec v1 7 fun s5 q5 m5 o5 => ⟨_, rfl, ?_⟩
      rw [ys] at o5
      replace m := m.step m5 (by simp)
      replace rd := rd.mv m5 (by simp)
      replace xm := xm.mv m5 (by simp) (by simp)
      replace v2 := v2.mv m5 (by simp)
      refine ⟨l3 q5 .ptr (some ⟨P k, 0, none⟩) _ rd (ptr _ hk) rfl, ?_⟩
      refine drwTake_spec (by decide) (by omega) (by omega) (by omega) (by omega) v2 xm s5 _ (o5.slc rfl (by simp)) fun q6 m6 xm _ => ⟨_, rfl, ?_⟩
      rw [takeT23_nil]
      exact fin q6 (m.step m6 (by simp; omega))
    | false =>
      rw [if_neg (by simp)]
      refine joinW_intro (fun _ h' => ∃ (q' : GH) (n' : Int), h' = q'.h ∧ Mv [1, 2, 3, 4, 5, 6, 7, 8] g.base q' ∧ RdC 1 q' 6 sd [.pointer (some ⟨P 0, 0, none⟩), .pointer (some ⟨P 1, 0, none⟩)] ∧ MakC q' 1 2 pm false [] A ∧ (∀ j < 2, DrwC q' (4 + j) (P j) pm (dD game bt nn tg j (if j = k then n' else n j))) ∧ three n' ∧ (¬ n k = 1 → ¬ n' = 1) ∧ (n' = 3 → n k = 3 ∨ ¬ n (1 - k) = 1)) ?_ ?_
      · intro J hJ
        have hpos : (s1.n : Int) > 0 := by rw [hs1]; split <;> decide
        rw [if_pos (by simpa using hpos)]
        refine idxAt23 rd (by kernel_rfl) (by omega) (by simp; omega) fun a1 l1 => ?_
        refine idxAt23 (hl0 q1 m) (by kernel_rfl) (by omega) (by simp; omega) fun a2 l2 => ?_
        refine l1 q1 .ptr (some ⟨P k, 0, none⟩) _ rd (ptr _ hk) ?_
        refine l2 q1 (.int .i64) v _ (hl0 q1 m) hv ?_
        refine ⟨by decide, ?_⟩
        have hp2 : (1 : Int) ≤ (s1.n : Int) ∧ (s1.n : Int) ≤ 9223372036854775807 := by rw [hs1]; split <;> decide
        refine Pick_spec _ _ (half23 hvb) hp2 ⟨_, rfl, ?_⟩
        refine ⟨l1 q1 .ptr (some ⟨P k, 0, none⟩) _ rd (ptr _ hk) rfl, ?_⟩
        have e1 := Int.emod_nonneg (Int.fdiv v (2 ^ min (Int.toNat 1) (IntKind.bits .i64))) (b := (s1.n : Int)) (by omega)
        have e2 := Int.emod_lt_of_pos (Int.fdiv v (2 ^ min (Int.toNat 1) (IntKind.bits .i64))) (b := (s1.n : Int)) (by omega)
        generalize Int.fdiv v (2 ^ min (Int.toNat 1) (IntKind.bits .i64)) % (s1.n : Int) = w at e1 e2 ⊢
        obtain ⟨w, rfl⟩ := Int.eq_ofNat_of_zero_le e1
        have hw : w < (sayT23 (dD game bt nn tg (1 - k) (n (1 - k)))).length := by rw [← o1.len]; omega
        try dsimp only
        refine o1.idxF rfl szF_Msg (by decide) hw fun b o hcs ok hel => ?_
        refine loadMsgAt hcs ok ?_
        refine mkMsgs_C q1 8 [(sayT23 (dD game bt nn tg (1 - k) (n (1 - k))))[w]] rfl (by simp) (by simp) (by simpa using ok) rfl fun s2 q2 m2 o2 => ?_
        replace m := m.step m2 (by simp)
        replace rd := rd.mv m2 (by simp)
        replace xm := xm.mv m2 (by simp) (by simp)
        replace V : ∀ j < 2, DrwC q2 (4 + j) (P j) pm (dD game bt nn tg j (n j)) := fun j hj => (V j hj).mv m2 (by simp)
        refine stepS q2 n k hk m rd xm V h3 8 s2 w (n (1 - k)) (by decide) (by decide) (by decide) (h3 _ hk1) hw (o2.slc rfl (by simp)) fun q3 n' r m3 xm V f1 f2 f3 f4 f5 f6 => ⟨_, rfl, ?_⟩
        exact hJ _ _ ⟨q3, n', rfl, m.step m3 (by simp), rd.mv m3 (by simp), xm, V, f1, f3, f4⟩
      rintro _ _ ⟨q2, n', rfl, m, rd, xm, V, f1, f3, f4⟩
      try dsimp only
      have h3' : ∀ j < 2, three (if j = k then n' else n j) := by
        intro j hj
        split
        · exact f1
        · exact h3 j hj
      have inv' : ∀ j < 2, (if j = k then n' else n j) = 3 → ¬ (if 1 - j = k then n' else n (1 - j)) = 1 := by
        intro j hj h
        rcases (show j = k ∨ j = 1 - k by omega) with rfl | rfl
        · rw [if_pos rfl] at h
          rw [if_neg (by omega)]
          rcases f4 h with h' | h'
          · exact inv j hj h'
          · exact h'
        · rw [if_neg (by omega)] at h
          rw [if_pos (by omega)]
          have := inv (1 - k) hk1 h
          rw [show 1 - (1 - k) = k from by omega] at this
          exact f3 this
      have next : X (IntKind.i64.wrap ((i : Int) + 1)) q2.h := by
        rw [wrapSucc (by omega)]
        exact hX _ _ ⟨i + 1, q2, fun j => if j = k then n' else n j, by omega, rfl, rfl, m, rd, xm, V, h3', inv'⟩ (by simp; omega)
      refine idxLoad_C rd (by kernel_rfl) (by omega) (some ⟨P k, 0, none⟩) (ptr k hk) ?_
      refine drwPhase_spec (V k hk) ⟨_, rfl, ?_⟩
      try dsimp only
      by_cases hp3 : (dD game bt nn tg k (if k = k then n' else n k)).phase = 3
      rotate_left
      · rw [if_neg (by simpa using hp3)]; exact next
      rw [if_pos (by simpa using hp3)]
      have hp : (if k = k then n' else n k) = 3 := hp3
      have hot := inv' k hk hp
      refine idxLoad_C rd (by kernel_rfl) (by omega) (some ⟨P (1 - k), 0, none⟩) (ptr _ hk1) ?_
      refine drwSay_spec (V (1 - k) hk1) 7 fun s3 q3 m3 o3 => ⟨_, rfl, ?_⟩
      have sl3 := say_len2 (game := game) (bt := bt) (nn := nn) (tg := tg) (k := 1 - k) (h3' (1 - k) hk1)
      rw [if_neg hot] at sl3
      have : s3.n = 2 := by rw [(o3.slc rfl (by rw [sl3]; decide)).len, sl3]
      try dsimp only
      rw [if_neg (by simp; omega), wrapSucc (by omega)]
      exact hX _ _ ⟨i + 1, q3, fun j => if j = k then n' else n j, by omega, rfl, rfl, m.step m3 (by simp), rd.mv m3 (by simp), xm.mv m3 (by simp) (by simp), fun j hj => (V j hj).mv m3 (by simp), h3', inv'⟩ (by simp; omega)
  rw [if_neg (by simp; omega)]
  clear hX inv
  -- the last rounds
  refine loopW_rule (fun st h' => ∃ (r : Nat) (q : GH) (n : Nat → Int), r ≤ 3 ∧ st = (r : Int) ∧ h' = q.h ∧ Mv [1, 2, 3, 4, 5, 6, 7, 8] g.base q ∧ RdC 1 q 6 sd [.pointer (some ⟨P 0, 0, none⟩), .pointer (some ⟨P 1, 0, none⟩)] ∧ MakC q 1 2 pm false [] A ∧ (∀ j < 2, DrwC q (4 + j) (P j) pm (dD game bt nn tg j (n j))) ∧ (∀ j < 2, three (n j)) ∧ (1 ≤ r → ¬ n 0 = 1 ∧ n 1 = 3) ∧ (2 ≤ r → n 0 = 3)) (fun st => 3 - st.toNat)
    ⟨0, q, n, by omega, rfl, rfl, m, rd, xm, V, h3, by omega, by omega⟩ ?_
  clear m rd xm V h3
  rintro X _ _ ⟨r, q, n, hr, rfl, rfl, m, rd, xm, V, h3, r1, r2⟩ hX
  try dsimp only
  by_cases hr3 : r < 3
  · rw [if_pos (by simp; omega)]
    refine loopW_rule (fun st h' => ∃ (k : Nat) (q : GH) (n : Nat → Int), k ≤ 2 ∧ st = (k : Int) ∧ h' = q.h ∧ Mv [1, 2, 3, 4, 5, 6, 7, 8] g.base q ∧ RdC 1 q 6 sd [.pointer (some ⟨P 0, 0, none⟩), .pointer (some ⟨P 1, 0, none⟩)] ∧ MakC q 1 2 pm false [] A ∧ (∀ j < 2, DrwC q (4 + j) (P j) pm (dD game bt nn tg j (n j))) ∧ (∀ j < 2, three (n j)) ∧ (1 ≤ 2 * r + k → ¬ n 0 = 1) ∧ (2 ≤ 2 * r + k → n 1 = 3) ∧ (3 ≤ 2 * r + k → n 0 = 3)) (fun st => 2 - st.toNat)
      ⟨0, q, n, by omega, rfl, rfl, m, rd, xm, V, h3, fun h => (r1 (by omega)).1, fun h => (r1 (by omega)).2, fun h => r2 (by omega)⟩ ?_
    clear m rd xm V h3 r1 r2
    rintro X2 _ _ ⟨k, q, n, hk, rfl, rfl, m, rd, xm, V, h3, r1, r2, r3⟩ hX2
    try dsimp only
    by_cases hk2 : k < 2
    rotate_left
    · rw [if_neg (by simp; omega), wrapSucc (by omega)]
      exact hX _ _ ⟨r + 1, q, n, by omega, rfl, rfl, m, rd, xm, V, h3, fun _ => ⟨r1 (by omega), r2 (by omega)⟩, fun _ => r3 (by omega)⟩ (by simp; omega)
    rw [if_pos (by simp; omega)]
    have hko : IntKind.i64.wrap (1 - (k : Int)) = ((1 - k : Nat) : Int) := by rw [wrapI64 (by omega) (by omega)]; omega
    rw [hko]
    have hk1 : 1 - k < 2 := by omega
    refine idxLoad_C rd (by kernel_rfl) (by omega) (some ⟨P (1 - k), 0, none⟩) (ptr _ hk1) ?_
    refine drwSay_spec (V (1 - k) hk1) 7 fun s1 q1 m1 o1 => ⟨_, rfl, ?_⟩
    replace m := m.step m1 (by simp)
    replace rd := rd.mv m1 (by simp)
    replace xm := xm.mv m1 (by simp) (by simp)
    replace V : ∀ j < 2, DrwC q1 (4 + j) (P j) pm (dD game bt nn tg j (n j)) := fun j hj => (V j hj).mv m1 (by simp)
    have sl2 := say_len2 (game := game) (bt := bt) (nn := nn) (tg := tg) (k := 1 - k) (h3 (1 - k) hk1)
    have o1 : SlC q1 7 ShMsg s1 (sayT23 (dD game bt nn tg (1 - k) (n (1 - k)))) := o1.slc rfl (by rw [sl2]; split <;> omega)
    have hs1 : s1.n = (sayT23 (dD game bt nn tg (1 - k) (n (1 - k)))).length := o1.len
    try dsimp only
    refine loopW_rule (fun st h' => ∃ (i : Nat) (q' : GH) (n' : Int), i ≤ s1.n ∧ st = (i : Int) ∧ h' = q'.h ∧ Mv [1, 2, 3, 4, 5, 6, 7, 8] g.base q' ∧ RdC 1 q' 6 sd [.pointer (some ⟨P 0, 0, none⟩), .pointer (some ⟨P 1, 0, none⟩)] ∧ MakC q' 1 2 pm false [] A ∧ SlC q' 7 ShMsg s1 (sayT23 (dD game bt nn tg (1 - k) (n (1 - k)))) ∧ (∀ j < 2, DrwC q' (4 + j) (P j) pm (dD game bt nn tg j (if j = k then n' else n j))) ∧ three n' ∧ (n k = 3 → n' = 3) ∧ (¬ n k = 1 → ¬ n' = 1) ∧ (1 ≤ i → ¬ n' = 1) ∧ (2 ≤ i → n' = 3)) (fun st => s1.n - st.toNat)
      ⟨0, q1, n k, by omega, rfl, rfl, m, rd, xm, o1, fun j hj => by
        by_cases h : j = k
        · subst h; rw [if_pos rfl]; exact V j hj
        · rw [if_neg h]; exact V j hj, h3 k hk2, id, id, by omega, by omega⟩ ?_
    clear m rd xm V o1
    rintro X3 _ _ ⟨i, q', n', hi, rfl, rfl, m, rd, xm, o1, V, f1, f2, f3, f5, f6⟩ hX3
    try dsimp only
    by_cases hlt' : i < s1.n
    · rw [if_pos (by simp; omega)]
      have hw : i < (sayT23 (dD game bt nn tg (1 - k) (n (1 - k)))).length := by omega
      refine idxAt23 rd (by kernel_rfl) (by omega) (by simp; omega) fun a1 l1 => ?_
      refine o1.idxF rfl szF_Msg (by decide) hw fun b o hcs ok hel => ?_
      refine l1 q' .ptr (some ⟨P k, 0, none⟩) _ rd (ptr _ hk2) ?_
      refine loadMsgAt hcs ok ?_
      refine mkMsgs_C q' 8 [(sayT23 (dD game bt nn tg (1 - k) (n (1 - k))))[i]] rfl (by simp) (by simp) (by simpa using ok) rfl fun s2 q2 m2 o2 => ?_
      replace m := m.step m2 (by simp)
      replace rd := rd.mv m2 (by simp)
      replace xm := xm.mv m2 (by simp) (by simp)
      replace o1 := o1.mv m2 (by simp)
      replace V : ∀ j < 2, DrwC q2 (4 + j) (P j) pm (dD game bt nn tg j (if j = k then n' else n j)) := fun j hj => (V j hj).mv m2 (by simp)
      have h3' : ∀ j < 2, three (if j = k then n' else n j) := by
        intro j hj
        split
        · exact f1
        · exact h3 j hj
      refine stepS q2 (fun j => if j = k then n' else n j) k hk2 m rd xm V h3' 8 s2 i (n (1 - k)) (by decide) (by decide) (by decide) (h3 _ hk1) hw (o2.slc rfl (by simp)) fun q3 n2 r m3 xm V g1 g2 g3 g4 g5 g6 => ⟨_, rfl, ?_⟩
      rw [if_pos rfl] at g2 g3 g6
      try dsimp only
      rw [wrapSucc (by have : (sayT23 (dD game bt nn tg (1 - k) (n (1 - k)))).length ≤ 2 := by (rw [sl2]; split <;> omega)
                       omega)]
      refine hX3 _ _ ⟨i + 1, q3, n2, by omega, rfl, rfl, m.step m3 (by simp), rd.mv m3 (by simp), xm, o1.mv m3 (by simp), fun j hj => ?_, g1, fun h => g2 (f2 h), fun h => g3 (f3 h), fun _ => ?_, fun _ => ?_⟩ (by simp; omega)
      · have := V j hj
        by_cases h : j = k
        · rw [if_pos h] at this ⊢; exact this
        · rw [if_neg h] at this ⊢; rw [if_neg h] at this; exact this
      · by_cases h0 : i = 0
        · exact g5 h0
        · exact g3 (f5 (by omega))
      · have : (sayT23 (dD game bt nn tg (1 - k) (n (1 - k)))).length ≤ 2 := by (rw [sl2]; split <;> omega)
        exact g6 (by omega) (f5 (by omega))
    rw [if_neg (by simp; omega)]
    have hie : i = s1.n := by omega
    rw [wrapSucc (by omega)]
    have hfull : ¬ n (1 - k) = 1 → n' = 3 := by
      intro h
      rw [if_neg h] at sl2
      exact f6 (by omega)
    have hpos : 1 ≤ i := by
      have : 1 ≤ (sayT23 (dD game bt nn tg (1 - k) (n (1 - k)))).length := by (rw [sl2]; split <;> omega)
      omega
    refine hX2 _ _ ⟨k + 1, q', fun j => if j = k then n' else n j, by omega, rfl, rfl, m, rd, xm, V, fun j hj => ?_, fun _ => ?_, fun _ => ?_, fun _ => ?_⟩ (by simp; omega)
    · show three (if j = k then n' else n j)
      split
      · exact f1
      · exact h3 j hj
    · show ¬ (if 0 = k then n' else n 0) = 1
      split
      · exact f5 hpos
      · exact r1 (by omega)
    · show (if 1 = k then n' else n 1) = 3
      split
      · rename_i h; subst h; exact hfull (r1 (by omega))
      · exact r2 (by omega)
    · show (if 0 = k then n' else n 0) = 3
      split
      · rename_i h; subst h; exact hfull (by rw [show n (1 - 0) = 3 from r2 (by omega)]; decide)
      · exact r3 (by omega)
  rw [if_neg (by simp; omega)]
  have n0 : n 0 = 3 := r2 (by omega)
  have n1 : n 1 = 3 := (r1 (by omega)).2
  have va := V 0 (by omega)
  have vb := V 1 (by omega)
  rw [n0] at va
  rw [n1] at vb
  have hb0' := tb.hb 0 (by omega)
  have hb1' := tb.hb 1 (by omega)
  generalize hB0 : bt 0 = c0 at *
  generalize hB1 : bt 1 = c1 at *
  have wa : whiteT (dD game bt nn tg 0 3) = (xorT c0 c1, true) := by rw [← hB0, ← hB1]; rfl
  have wb : whiteT (dD game bt nn tg 1 3) = (xorT c1 c0, true) := by rw [← hB0, ← hB1]; rfl
  have sa : sideT (dD game bt nn tg 0 3) = (if ¬ xorT c0 c1 = 0 then 1 else 0, true) := by unfold sideT; rw [wa]; simp [dD, DrwT.player]
  have sb : sideT (dD game bt nn tg 1 3) = (if ¬ xorT c1 c0 = 1 then 1 else 0, true) := by unfold sideT; rw [wb]; simp [dD, DrwT.player]
  refine drwWhite_spec va ?_
  rw [wa]
  refine ⟨(_, true), rfl, ?_⟩
  refine drwWhite_spec vb ?_
  rw [wb]
  refine ⟨(_, true), rfl, ?_⟩
  refine drwSide_spec va ?_
  rw [sa]
  refine ⟨(_, true), rfl, ?_⟩
  refine drwSide_spec vb ?_
  rw [sb]
  refine ⟨(_, true), rfl, ?_⟩
  try dsimp only
  rw [if_pos rfl, if_pos rfl]
  have x1 : xorT c0 c1 = xorT c1 c0 ∧ ((xorT c0 c1 == 0) == (c0 == c1)) = true ∧ ((if ¬ xorT c0 c1 = 0 then (1 : Int) else 0) != (if ¬ xorT c1 c0 = 1 then (1 : Int) else 0)) = true ∧ (((if ¬ xorT c0 c1 = 0 then (1 : Int) else 0) == 0) == (xorT c0 c1 == 0)) = true := by
    rcases hb0' with h | h <;> rcases hb1' with h' | h' <;> rw [h, h'] <;> decide
  obtain ⟨y1, y2, y3, y4⟩ := x1
  rw [if_pos (by simpa using y1)]
  refine ⟨by decide, ?_⟩
  rw [if_pos y2, if_pos y3, y4]
  exact fin q m

theorem DrawBoth_walk {h : Heap} (ct : Array Value) (t : List Int) (w1 : Lay h ShTag t ct.toList) (bits : Int) (hb : (Lit.int IntKind.i64 bits).wf = true) (a : Option Addr) (la ca : Nat) (x : List Int) (w2 : Lay h (.sl (.int .i64)) x [.slice a la ca]) :
    HC Try.prog F.law23_DrawBoth #[.agg ct, .int .i64 bits, .slice a la ca] (fun v h' => v = .bool true ∧ Ext h h') h := by
  obtain ⟨ct⟩ := ct
  obtain ⟨rfl, ok1⟩ := LayC.enc (s := ShTag) rfl (w1.arg (Mv.refl [] ⟨h, fun _ => 0⟩) (by simp))
  have te : ∀ u : List Int, (⟨ShTag.enc u⟩ : Array Value) = tagA u := fun u => by rw [encTag]
  rw [te]
  exact DrawBoth_spec ⟨h, fun _ => 0⟩ t ok1 bits ⟨a, la, ca⟩ x (w2.arg (Mv.refl [] _) (by simp)) fun g' m => ⟨rfl, m.ext (by simp)⟩

end Go.Proofs.Ytgllngcoclnpeaa
