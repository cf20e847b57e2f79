/-
  In plain Lean: chains of a table: like heads, like chains.
-/
import Derived.Test.YtgggpnjjkcfckaaGreatKLaw20
set_option linter.unusedSimpArgs false
set_option linter.unusedVariables false
namespace Go.Proofs.YtgggpnjjkcfckaaGreat
open Go Go.Ev

/-! ### Strings, numbers -/

theorem strOf_data (xs : List Int) : ∀ r : ByteArray, (xs.foldl (fun r n => r.push (UInt8.ofNat n.toNat)) r).data.toList = r.data.toList ++ xs.map fun n => UInt8.ofNat n.toNat := by
  induction xs with
  | nil => intro r; simp
  | cons x xs ih => intro r; rw [List.foldl_cons, ih]; simp [ByteArray.push]
theorem strOf_inj {xs ys : List Int} (hx : ∀ x ∈ xs, isByte x) (hy : ∀ y ∈ ys, isByte y) (h : strOf xs = strOf ys) : xs = ys := by
  have h1 := congrArg (fun b : ByteArray => b.data.toList) h
  simp only [strOf, strOf_data] at h1
  have h2 : (xs.map fun n => UInt8.ofNat n.toNat) = ys.map fun n => UInt8.ofNat n.toNat := by simpa using h1
  clear h h1
  induction xs generalizing ys with
  | nil => cases ys with
    | nil => rfl
    | cons y ys => simp at h2
  | cons x xs ih =>
    cases ys with
    | nil => simp at h2
    | cons y ys =>
      simp only [List.map_cons, List.cons.injEq] at h2
      have bx := hx x List.mem_cons_self
      have by_ := hy y List.mem_cons_self
      unfold isByte at bx by_
      have e : x = y := by
        have := congrArg UInt8.toNat h2.1
        simp only [UInt8.toNat_ofNat'] at this
        omega
      rw [e, ih (fun z hz => hx z (List.mem_cons_of_mem _ hz)) (fun z hz => hy z (List.mem_cons_of_mem _ hz)) h2.2]

theorem numT_inj {a b : Nat} (ha : a ≤ 1000000) (hb : b ≤ 1000000) (h : numT (a : Int) = numT (b : Int)) : a = b := by
  unfold numT at h
  have h1 := List.append_inj_left' h rfl
  have h2 := List.append_inj_right h1 rfl
  have g0 := congrArg (fun l => l[7]?) h2
  have g1 := congrArg (fun l => l[6]?) h2
  have g2 := congrArg (fun l => l[5]?) h2
  simp only [eightB, List.map_cons, List.map_nil, List.getElem?_cons_succ, List.getElem?_cons_zero, Option.some.injEq, wrapU8_mod] at g0 g1 g2
  have wa : IntKind.u64.wrap (a : Int) = a := by simp only [IntKind.wrap, IntKind.bits, IntKind.signed]; simp; omega
  have wb : IntKind.u64.wrap (b : Int) = b := by simp only [IntKind.wrap, IntKind.bits, IntKind.signed]; simp; omega
  rw [wa, wb] at g0 g1 g2
  rw [Int.fdiv_eq_ediv_of_nonneg _ (by decide), Int.fdiv_eq_ediv_of_nonneg _ (by decide)] at g0 g1 g2
  simp only [show (2 : Int) ^ 0 = 1 from rfl, show (2 : Int) ^ 8 = 256 from rfl, show (2 : Int) ^ 16 = 65536 from rfl] at g0 g1 g2
  omega

theorem fourB_inj {n k : Int} (hn : 0 ≤ n ∧ n ≤ 4294967295) (hk : 0 ≤ k ∧ k ≤ 4294967295) (h : fourB n = fourB k) : n = k := by
  unfold fourB at h
  simp only [List.cons.injEq, wrapU8_mod, and_true] at h
  rw [Int.fdiv_eq_ediv_of_nonneg _ (by decide), Int.fdiv_eq_ediv_of_nonneg _ (by decide), Int.fdiv_eq_ediv_of_nonneg _ (by decide), Int.fdiv_eq_ediv_of_nonneg _ (by decide), Int.fdiv_eq_ediv_of_nonneg _ (by decide), Int.fdiv_eq_ediv_of_nonneg _ (by decide)] at h
  omega

theorem moveB_inj {m n : MoveT} (h : moveB m = moveB n) : m = n := by
  obtain ⟨a, b, c, ⟨⟩⟩ := m
  obtain ⟨a', b', c', ⟨⟩⟩ := n
  simp only [moveB, List.cons.injEq, and_true] at h
  obtain ⟨rfl, rfl, rfl⟩ := h
  rfl
theorem offerN_inj {a b : Bool} (h : offerN a = offerN b) : a = b := by cases a <;> cases b <;> simp_all [offerN]
theorem bodyNamed {b : BodyT} (h : bodyOk b = true) : (namedD b).1 = b := by
  unfold bodyOk at h
  simp only [Bool.and_eq_true, decide_eq_true_eq] at h
  exact h.2
theorem bodyB_inj {a b : BodyT} (oka : ShBody.ok a) (okb : ShBody.ok b) (ha : bodyOk a = true) (hb : bodyOk b = true) (hs : a.say = b.say) (h : bodyB a = bodyB b) : a = b := by
  have na := bodyNamed ha
  have nb := bodyNamed hb
  rw [← na, ← nb]
  unfold bodyB at h
  unfold namedD
  by_cases s1 : a.say = 1
  · rw [if_pos s1, if_pos (show b.say = 1 by omega)] at h
    rw [if_pos s1, if_pos (show b.say = 1 by omega)]
    have h1 := List.append_inj_left' h rfl
    have h2 := List.append_inj_right' h rfl
    have h3 := moveB_inj h1
    have h4 : a.offer = b.offer := offerN_inj (List.cons.inj h2).1
    rw [hs, h3, h4]
  rw [if_neg s1, if_neg (show ¬ b.say = 1 by omega)] at h
  rw [if_neg s1, if_neg (show ¬ b.say = 1 by omega)]
  by_cases s2 : a.say = 2
  · rw [if_pos s2, if_pos (show b.say = 2 by omega)] at h
    rw [if_pos s2, if_pos (show b.say = 2 by omega)]
    have h2 : a.claim = b.claim := by simpa using h
    rw [hs, h2]
  rw [if_neg s2, if_neg (show ¬ b.say = 2 by omega)] at h
  rw [if_neg s2, if_neg (show ¬ b.say = 2 by omega)]
  by_cases s5 : a.say = 5
  · rw [if_pos s5, if_pos (show b.say = 5 by omega)] at h
    rw [if_pos s5, if_pos (show b.say = 5 by omega)]
    rw [hs, h]
  rw [if_neg s5, if_neg (show ¬ b.say = 5 by omega)] at h
  rw [if_neg s5, if_neg (show ¬ b.say = 5 by omega)]
  by_cases s7 : a.say = 7
  · rw [if_pos s7, if_pos (show b.say = 7 by omega)] at h
    rw [if_pos s7, if_pos (show b.say = 7 by omega)]
    have hl : (moveB a.move).length = (moveB b.move).length := rfl
    have h1 := List.append_inj_left h hl
    have h2 := List.append_inj_right h hl
    rw [hs, moveB_inj h1, h2]
  · rw [if_neg s7, if_neg (show ¬ b.say = 7 by omega), hs]

theorem entryB_inj {a b : EntryT} (oka : ShEntry.ok a) (okb : ShEntry.ok b) (ha : entryOk a = true) (hb : entryOk b = true) (h : entryB a = entryB b) : a = b := by
  unfold entryOk at ha hb
  simp only [Bool.and_eq_true, decide_eq_true_eq] at ha hb
  unfold entryB at h
  have h1 := List.append_inj h (by rw [oka.1.1, okb.1.1])
  have h2 := List.append_inj h1.2 rfl
  have h3 := List.append_inj h2.2 (by rw [oka.2.2.1.1, okb.2.2.1.1])
  have h4 := List.cons.inj h3.2
  have e1 : a.number = b.number := fourB_inj ⟨ha.1, ha.2.1⟩ ⟨hb.1, hb.2.1⟩ h2.1
  have e2 := bodyB_inj oka.2.2.2.1 okb.2.2.2.1 ha.2.2 hb.2.2 h4.1 h4.2
  obtain ⟨g1, n1, a1, w1, ⟨⟩⟩ := a
  obtain ⟨g2, n2, a2, w2, ⟨⟩⟩ := b
  have q1 : g1 = g2 := h1.1
  have q3 : a1 = a2 := h3.1
  have q2 : n1 = n2 := e1
  have q4 : w1 = w2 := e2
  rw [q1, q2, q3, q4]

/-! ### What a table was asked -/

/-- More was asked since. -/
def Since (A B : List ShThing.T) : Prop := ∃ C, B = A ++ C
theorem Since.refl (A : List ShThing.T) : Since A A := ⟨[], by simp⟩
theorem Since.trans {A B C : List ShThing.T} (h : Since A B) (k : Since B C) : Since A C := by
  obtain ⟨X, rfl⟩ := h
  obtain ⟨Y, rfl⟩ := k
  exact ⟨X ++ Y, by simp⟩
theorem idxIn_append {α : Type} [DecidableEq α] {y : α} : ∀ {xs zs : List α} {k : Nat}, idxIn y xs = some k → idxIn y (xs ++ zs) = some k
  | [], zs, k, h => by simp [idxIn] at h
  | x :: xs, zs, k, h => by
    by_cases e : y = x
    · simpa [idxIn, e] using h
    · simp only [idxIn, if_neg e, Option.map_eq_some_iff] at h
      obtain ⟨j, hj, rfl⟩ := h
      simp only [List.cons_append, idxIn, if_neg e, idxIn_append hj, Option.map_some]
theorem Since.idx {A B : List ShThing.T} (h : Since A B) {x : ShThing.T} {k : Nat} (hk : idxIn x A = some k) : idxIn x B = some k := by
  obtain ⟨C, rfl⟩ := h
  exact idxIn_append hk
theorem idxIn_snoc {α : Type} [DecidableEq α] {y : α} : ∀ {xs : List α}, idxIn y xs = none → idxIn y (xs ++ [y]) = some xs.length
  | [], _ => by simp [idxIn]
  | x :: xs, h => by
    by_cases e : y = x
    · simp [idxIn, e] at h
    · simp only [idxIn, if_neg e, Option.map_eq_none_iff] at h
      simp only [List.cons_append, idxIn, if_neg e, idxIn_snoc h, Option.map_some, List.length_cons]
theorem askT_since (A : List ShThing.T) (x : ShThing.T) : Since A (askT A x).2 := by
  unfold askT
  split
  · exact Since.refl A
  · exact ⟨[x], rfl⟩
theorem askT_idx (A : List ShThing.T) (x : ShThing.T) : idxIn x (askT A x).2 = some (askT A x).1 := by
  unfold askT
  split
  · assumption
  · rename_i h; exact idxIn_snoc h
theorem askT_len (A : List ShThing.T) (x : ShThing.T) : (askT A x).2.length ≤ A.length + 1 := by
  unfold askT
  split
  · simp
  · simp
theorem askT_there {A : List ShThing.T} {x : ShThing.T} {k : Nat} (h : idxIn x A = some k) : askT A x = (k, A) := by
  unfold askT
  rw [h]
theorem idxIn_eq {α : Type} [DecidableEq α] {x y : α} {xs : List α} {k : Nat} (h : idxIn x xs = some k) (h' : idxIn y xs = some k) : x = y := by
  have h1 := idxIn_some h
  have h2 := idxIn_some h'
  rw [h1] at h2
  exact Option.some.inj h2

/-! ### Right chains -/

def thE (e : EntryT) : ShThing.T := thS (linkB ++ entryBytes e)
def thG (game : List Int) : ShThing.T := thS (rootB ++ game)
theorem linkT_tab (A : List ShThing.T) (e : EntryT) : linkT false A e = (numT ((askT A (thE e)).1 : Int), (askT A (thE e)).2) := rfl
theorem rootT_tab (A : List ShThing.T) (game : List Int) : rootT false A game = (numT ((askT A (thG game)).1 : Int), (askT A (thG game)).2) := rfl
theorem thE_inj {a b : EntryT} (oka : ShEntry.ok a) (okb : ShEntry.ok b) (ha : entryOk a = true) (hb : entryOk b = true) (h : thE a = thE b) : a = b := by
  have h1 : strOf (linkB ++ entryBytes a) = strOf (linkB ++ entryBytes b) := congrArg (fun x : ShThing.T => x.2.2.1) h
  have bl : ∀ x ∈ linkB, isByte x := by simp [linkB, isByte]
  have h2 := strOf_inj (fun x hx => (List.mem_append.1 hx).elim (bl x) (entryBytes_byte oka x)) (fun x hx => (List.mem_append.1 hx).elim (bl x) (entryBytes_byte okb x)) h1
  have h3 := List.append_cancel_left h2
  unfold entryBytes bytesIf at h3
  rw [if_pos ha, if_pos hb] at h3
  exact entryB_inj oka okb ha hb h3
theorem thG_inj {a b : List Int} (oka : ShTag.ok a) (okb : ShTag.ok b) (h : thG a = thG b) : a = b := by
  have h1 : strOf (rootB ++ a) = strOf (rootB ++ b) := congrArg (fun x : ShThing.T => x.2.2.1) h
  have bl : ∀ x ∈ rootB, isByte x := by simp [rootB, isByte]
  have h2 := strOf_inj (fun x hx => (List.mem_append.1 hx).elim (bl x) ((okTagB oka).2 x)) (fun x hx => (List.mem_append.1 hx).elim (bl x) ((okTagB okb).2 x)) h1
  exact List.append_cancel_left h2

/-- A chain of a table that was asked A. -/
structure Good (A : List ShThing.T) (game : List Int) (es : List EntryT) (ls : List (List Int)) : Prop where
  len : ls.length = es.length
  ok : ∀ e ∈ es, ShEntry.ok e
  right : ∀ e ∈ es, entryOk e = true
  num : ∀ (i : Nat) (e : EntryT), es[i]? = some e → e.number = (i : Int)
  same : ∀ e ∈ es, e.game = game
  link : ∀ (i : Nat) (e : EntryT), es[i]? = some e → ∃ k : Nat, idxIn (thE e) A = some k ∧ ls[i]? = some (numT (k : Int))
  root : ∀ e : EntryT, es[0]? = some e → ∃ k : Nat, idxIn (thG game) A = some k ∧ e.ahead = numT (k : Int)
  next : ∀ (i : Nat) (e : EntryT), es[i + 1]? = some e → ls[i]? = some e.ahead
theorem Good.since {A B : List ShThing.T} {game : List Int} {es : List EntryT} {ls : List (List Int)} (h : Good A game es ls) (s : Since A B) : Good B game es ls :=
  ⟨h.len, h.ok, h.right, h.num, h.same, fun i e he => by obtain ⟨k, h1, h2⟩ := h.link i e he; exact ⟨k, s.idx h1, h2⟩, fun e he => by obtain ⟨k, h1, h2⟩ := h.root e he; exact ⟨k, s.idx h1, h2⟩, h.next⟩
theorem Good.nil (A : List ShThing.T) (game : List Int) : Good A game [] [] := ⟨rfl, by simp, by simp, by simp, by simp, by simp, by simp, by simp⟩

/-- The head, asked for, and asked for once more. -/
theorem head_twice (A : List ShThing.T) (game : List Int) (ls : List (List Int)) : headT false (headT false A game ls).2 game ls = headT false A game ls := by
  unfold headT
  by_cases h : ls.length = 0
  · rw [if_pos h, if_pos h, rootT_tab, rootT_tab]
    have := askT_there (askT_idx A (thG game))
    rw [this]
  · rw [if_neg h, if_neg h]
theorem head_since (A : List ShThing.T) (game : List Int) (ls : List (List Int)) : Since A (headT false A game ls).2 := by
  unfold headT
  split
  · exact askT_since _ _
  · exact Since.refl _
theorem head_len (A : List ShThing.T) (game : List Int) (ls : List (List Int)) : (headT false A game ls).2.length ≤ A.length + 1 := by
  unfold headT
  split
  · exact askT_len _ _
  · simp

theorem atT_end (es : List EntryT) : atT es (es.length : Int) = (entry0, false) := by
  unfold atT
  rw [if_neg (by omega)]

/-- A right body's entry fits. -/
theorem step_good {A : List ShThing.T} {game : List Int} {es : List EntryT} {ls : List (List Int)} (h : Good A game es ls) (hg : ShTag.ok game) (hls : ∀ t ∈ ls, ShTag.ok t) (hn : es.length ≤ 1000000) {b : BodyT} (okb : ShBody.ok b) (hb : bodyOk b = true) :
    ∃ (e : EntryT) (A1 : List ShThing.T) (k : Nat), nextT false game (A, es, ls) b = (0, e, (headT false A game ls).2) ∧ addT false game ((headT false A game ls).2, es, ls) [e] = (0, A1, es ++ [e], ls ++ [numT (k : Int)]) ∧ Good A1 game (es ++ [e]) (ls ++ [numT (k : Int)]) ∧ Since A A1 ∧ A1.length ≤ A.length + 2 := by
  obtain ⟨hd, hhd⟩ : ∃ hd, hd = headT false A game ls := ⟨_, rfl⟩
  have h2 := head_twice A game ls
  have hs := head_since A game ls
  have hl := head_len A game ls
  have okh := headT_ok hls false A game
  rw [← hhd] at h2 hs hl okh ⊢
  obtain ⟨e, he⟩ : ∃ e : EntryT, e = (game, (es.length : Int), hd.1, b, ()) := ⟨_, rfl⟩
  have hnx : nextT false game (A, es, ls) b = (0, e, hd.2) := by
    unfold nextT
    rw [if_pos hb, he, hhd]
  have oke : ShEntry.ok e := by rw [he]; exact ⟨hg, okI ⟨by show (-9223372036854775808 : Int) ≤ (es.length : Int); omega, by show (es.length : Int) ≤ 9223372036854775807; omega⟩, okh, okb, trivial⟩
  have hr : entryOk e = true := by
    rw [he]
    unfold entryOk
    simp only [Bool.and_eq_true, decide_eq_true_eq]
    exact ⟨by show (0 : Int) ≤ (es.length : Int); omega, by show (es.length : Int) ≤ 4294967295; omega, hb⟩
  have en : e.number = (es.length : Int) := by rw [he]
  have eg : e.game = game := by rw [he]
  have ea : e.ahead = hd.1 := by rw [he]
  have hw : whyS false game (hd.2, es, ls) e = (0, hd.2) := by
    unfold whyS whyT
    dsimp only
    rw [if_neg (by simp [hr]), if_neg (by simp [eg]), en, atT_end, if_neg (by simp), if_neg (by simp), if_neg (by omega), h2, if_neg (by simp [ea])]
  have hadd : addT false game (hd.2, es, ls) [e] = (0, (askT hd.2 (thE e)).2, es ++ [e], ls ++ [numT ((askT hd.2 (thE e)).1 : Int)]) := by
    rw [addOne, hw, if_pos rfl, linkT_tab]
  refine ⟨e, _, _, hnx, hadd, ?_, hs.trans (askT_since _ _), by have := askT_len hd.2 (thE e); omega⟩
  have hG := h.since (hs.trans (askT_since hd.2 (thE e)))
  refine ⟨by simp [h.len], ?_, ?_, ?_, ?_, ?_, ?_, ?_⟩
  · intro x hx
    rcases List.mem_append.1 hx with hx | hx
    · exact h.ok x hx
    · rw [List.mem_singleton.1 hx]; exact oke
  · intro x hx
    rcases List.mem_append.1 hx with hx | hx
    · exact h.right x hx
    · rw [List.mem_singleton.1 hx]; exact hr
  · intro i x hx
    rcases Nat.lt_trichotomy i es.length with hi | hi | hi
    · rw [List.getElem?_append_left hi] at hx; exact h.num i x hx
    · subst hi
      rw [List.getElem?_append_right (Nat.le_refl _), Nat.sub_self] at hx
      cases hx; exact en
    · rw [List.getElem?_eq_none (by simp; omega)] at hx; cases hx
  · intro x hx
    rcases List.mem_append.1 hx with hx | hx
    · exact h.same x hx
    · rw [List.mem_singleton.1 hx]; exact eg
  · intro i x hx
    rcases Nat.lt_trichotomy i es.length with hi | hi | hi
    · rw [List.getElem?_append_left hi] at hx
      obtain ⟨k, h1, h3⟩ := hG.link i x hx
      exact ⟨k, h1, by rw [List.getElem?_append_left (by rw [h.len]; exact hi)]; exact h3⟩
    · subst hi
      rw [List.getElem?_append_right (Nat.le_refl _), Nat.sub_self] at hx
      cases hx
      exact ⟨_, askT_idx _ _, by rw [List.getElem?_append_right (by rw [h.len]; exact Nat.le_refl _), h.len, Nat.sub_self]; rfl⟩
    · rw [List.getElem?_eq_none (by simp; omega)] at hx; cases hx
  · intro x hx
    by_cases hi : 0 < es.length
    · rw [List.getElem?_append_left hi] at hx
      exact hG.root x hx
    · have h0 : es = [] := List.length_eq_zero_iff.1 (by omega)
      subst h0
      have hx' : e = x := by simpa using hx
      subst hx'
      have hl0 : ls = [] := List.length_eq_zero_iff.1 (by simpa using h.len)
      have : hd = rootT false A game := by rw [hhd]; unfold headT; rw [if_pos (by simp [hl0])]
      rw [rootT_tab] at this
      refine ⟨(askT A (thG game)).1, ?_, by rw [ea, this]⟩
      have s1 := askT_since hd.2 (thE e)
      refine s1.idx ?_
      rw [this]
      exact askT_idx _ _
  · intro i x hx
    rcases Nat.lt_trichotomy (i + 1) es.length with hi | hi | hi
    · rw [List.getElem?_append_left hi] at hx
      rw [List.getElem?_append_left (by rw [h.len]; omega)]
      exact h.next i x hx
    · rw [hi, List.getElem?_append_right (Nat.le_refl _), Nat.sub_self] at hx
      have hx' : e = x := by simpa using hx
      subst hx'
      have hlt : i < ls.length := by rw [h.len]; omega
      rw [List.getElem?_append_left hlt, ea, hhd]
      unfold headT
      rw [if_neg (by omega)]
      have : ls.length - 1 = i := by rw [h.len]; omega
      simp [this, List.getD_eq_getElem?_getD, List.getElem?_eq_getElem hlt]
    · rw [List.getElem?_eq_none (by simp; omega)] at hx; cases hx

/-- Two right chains of one length, with one last tag. -/
theorem heads_same {A : List ShThing.T} (hA : A.length ≤ 1000000) {g h : List Int} {es es' : List EntryT} {ls ls' : List (List Int)} (x : Good A g es ls) (y : Good A h es' ls') (hl : es.length = es'.length) {n : Nat} (hn : es.length = n + 1) (ht : ls[n]? = ls'[n]?) : es = es' ∧ g = h := by
  have key : ∀ d j : Nat, j + d = n → es[j]? = es'[j]? ∧ ls[j]? = ls'[j]? := by
    have one : ∀ j : Nat, j < es.length → ls[j]? = ls'[j]? → es[j]? = es'[j]? := by
      intro j hj hlj
      have e1 : es[j]? = some es[j] := List.getElem?_eq_getElem hj
      have hj' : j < es'.length := by omega
      have e2 : es'[j]? = some es'[j] := List.getElem?_eq_getElem hj'
      obtain ⟨k, h1, h2⟩ := x.link j _ e1
      obtain ⟨k', h1', h2'⟩ := y.link j _ e2
      rw [h2, h2'] at hlj
      have hk := numT_inj (by have := idxIn_lt h1; omega) (by have := idxIn_lt h1'; omega) (Option.some.inj hlj)
      subst hk
      have := thE_inj (x.ok _ (List.getElem_mem hj)) (y.ok _ (List.getElem_mem hj')) (x.right _ (List.getElem_mem hj)) (y.right _ (List.getElem_mem hj')) (idxIn_eq h1 h1')
      rw [e1, e2, this]
    intro d
    induction d with
    | zero =>
      intro j hj
      have : j = n := by omega
      subst this
      exact ⟨one j (by omega) ht, ht⟩
    | succ d ih =>
      intro j hj
      have h1 := (ih (j + 1) (by omega)).1
      have hj1 : j + 1 < es.length := by omega
      have e1 : es[j + 1]? = some es[j + 1] := List.getElem?_eq_getElem hj1
      have n1 := x.next j _ e1
      have n2 := y.next j es[j + 1] (by rw [← h1]; exact e1)
      have h2 : ls[j]? = ls'[j]? := by rw [n1, n2]
      exact ⟨one j (by omega) h2, h2⟩
  have he : es = es' := by
    apply List.ext_getElem?
    intro j
    by_cases hj : j < es.length
    · exact (key (n - j) j (by omega)).1
    · rw [List.getElem?_eq_none (by omega), List.getElem?_eq_none (by omega)]
  refine ⟨he, ?_⟩
  have h0 : 0 < es.length := by omega
  have m1 := List.getElem_mem h0
  rw [← x.same _ m1]
  exact y.same _ (he ▸ m1)

theorem head_at {A : List ShThing.T} {game : List Int} {es : List EntryT} {ls : List (List Int)} (h : Good A game es ls) {i : Nat} (hi : i < es.length) : headT false A game (ls.take i) = (es[i].ahead, A) := by
  have e1 : es[i]? = some es[i] := List.getElem?_eq_getElem hi
  have hli : i < ls.length := by rw [h.len]; exact hi
  have ltl : (ls.take i).length = i := by simp; omega
  unfold headT
  rw [ltl]
  by_cases h0 : i = 0
  · subst h0
    rw [if_pos rfl, rootT_tab]
    obtain ⟨k, h1, h2⟩ := h.root _ e1
    rw [askT_there h1, h2]
  · rw [if_neg h0]
    obtain ⟨j, rfl⟩ : ∃ j, i = j + 1 := ⟨i - 1, by omega⟩
    have := h.next j _ e1
    rw [List.getD_eq_getElem?_getD, List.getElem?_take, if_pos (by omega), Nat.add_sub_cancel, this]
    rfl
theorem head_after {A : List ShThing.T} {game : List Int} {es : List EntryT} {ls : List (List Int)} (h : Good A game es ls) {i : Nat} (hi : i < ls.length) : headT false A game (ls.take (i + 1)) = (ls[i], A) := by
  unfold headT
  have ltl : (ls.take (i + 1)).length = i + 1 := by simp; omega
  rw [ltl, if_neg (by omega), Nat.add_sub_cancel, List.getD_eq_getElem?_getD, List.getElem?_take, if_pos (by omega), List.getElem?_eq_getElem hi]
  rfl

/-- The chain built anew, entry by entry. -/
theorem again_good {A : List ShThing.T} {game : List Int} {es : List EntryT} {ls : List (List Int)} (h : Good A game es ls) {i : Nat} (hi : i < es.length) :
    addT false game (A, es.take i, ls.take i) [es[i]] = (0, A, es.take (i + 1), ls.take (i + 1)) := by
  have e1 : es[i]? = some es[i] := List.getElem?_eq_getElem hi
  have hli : i < ls.length := by rw [h.len]; exact hi
  have mem := List.getElem_mem hi
  have lt : (es.take i).length = i := by simp; omega
  have ltl : (ls.take i).length = i := by simp; omega
  have hh : headT false A game (ls.take i) = (es[i].ahead, A) := by
    unfold headT
    rw [ltl]
    by_cases h0 : i = 0
    · subst h0
      rw [if_pos rfl, rootT_tab]
      obtain ⟨k, h1, h2⟩ := h.root _ e1
      rw [askT_there h1, h2]
    · rw [if_neg h0]
      obtain ⟨j, rfl⟩ : ∃ j, i = j + 1 := ⟨i - 1, by omega⟩
      have := h.next j _ e1
      rw [List.getD_eq_getElem?_getD, List.getElem?_take, if_pos (by omega), Nat.add_sub_cancel, this]
      rfl
  have hw : whyS false game (A, es.take i, ls.take i) es[i] = (0, A) := by
    unfold whyS whyT
    dsimp only
    have ha : atT (es.take i) es[i].number = (entry0, false) := by
      rw [h.num i _ e1]
      unfold atT
      rw [if_neg (by rw [lt]; omega)]
    rw [if_neg (by simp [h.right _ mem]), if_neg (by simp [h.same _ mem]), ha, if_neg (by simp), if_neg (by simp), if_neg (by rw [h.num i _ e1, lt]; omega), hh, if_neg (by simp)]
  obtain ⟨k, h1, h2⟩ := h.link i _ e1
  rw [addOne, hw, if_pos rfl, linkT_tab, askT_there h1]
  have h3 : ls[i] = numT (k : Int) := by rw [List.getElem?_eq_getElem hli] at h2; exact Option.some.inj h2
  rw [List.take_succ_eq_append_getElem hi, List.take_succ_eq_append_getElem hli, h3]

theorem Good.tags {A : List ShThing.T} {game : List Int} {es : List EntryT} {ls : List (List Int)} (h : Good A game es ls) : ∀ t ∈ ls, ShTag.ok t := by
  intro t ht
  obtain ⟨i, hi, rfl⟩ := List.mem_iff_getElem.1 ht
  have hie : i < es.length := by rw [← h.len]; exact hi
  obtain ⟨k, _, h2⟩ := h.link i _ (List.getElem?_eq_getElem hie)
  rw [List.getElem?_eq_getElem hi] at h2
  rw [Option.some.inj h2]
  exact okTag (numT_length _) (numT_byte _)

theorem nextT_bad {game : List Int} {st : ChSt} {b : BodyT} (hb : ¬ bodyOk b = true) : nextT false game st b = (2, entry0, st.1) := by
  unfold nextT
  rw [if_neg hb]

theorem grown_good {game : List Int} (hg : ShTag.ok game) : ∀ (l : List BodyT) (st : ChSt), Good st.1 game st.2.1 st.2.2 → (∀ b ∈ l, ShBody.ok b) → st.2.1.length + l.length ≤ 1000000 →
    Good (grownT false game st l).1 game (grownT false game st l).2.1 (grownT false game st l).2.2 ∧ Since st.1 (grownT false game st l).1 ∧ (grownT false game st l).1.length ≤ st.1.length + 2 * l.length
  | [], st, h, _, _ => ⟨h, Since.refl _, by simp [grownT]⟩
  | b :: l, st, h, hl, hn => by
    obtain ⟨A, es, ls⟩ := st
    simp only [List.length_cons] at hn ⊢
    dsimp only at h hn
    by_cases hb : bodyOk b = true
    · obtain ⟨e, A1, k, h1, h2, h3, h4, h5⟩ := step_good h hg h.tags (by omega) (hl b List.mem_cons_self) hb
      have e1 : grownT false game (A, es, ls) (b :: l) = grownT false game (A1, es ++ [e], ls ++ [numT (k : Int)]) l := by
        rw [grownT, h1, if_pos rfl]
        dsimp only
        rw [h2]
      rw [e1]
      have ih := grown_good hg l (A1, es ++ [e], ls ++ [numT (k : Int)]) h3 (fun x hx => hl x (List.mem_cons_of_mem _ hx)) (by simp; omega)
      exact ⟨ih.1, h4.trans ih.2.1, by have := ih.2.2; dsimp only at this ⊢; omega⟩
    · have e1 : grownT false game (A, es, ls) (b :: l) = grownT false game (A, es, ls) l := by
        rw [grownT, nextT_bad hb, if_neg (by simp)]
      rw [e1]
      have ih := grown_good hg l (A, es, ls) h (fun x hx => hl x (List.mem_cons_of_mem _ hx)) (by dsimp only; omega)
      exact ⟨ih.1, ih.2.1, by have := ih.2.2; dsimp only at this ⊢; omega⟩

/-- Two heads, asked for one behind the other, are the same just if the chains are. -/
theorem heads_iff {A : List ShThing.T} (hA : A.length ≤ 900000) {g h : List Int} (hg : ShTag.ok g) (hh : ShTag.ok h) {es es' : List EntryT} {ls ls' : List (List Int)} (x : Good A g es ls) (y : Good A h es' ls') (hl : es.length = es'.length) :
    (headT false A g ls).1 = (headT false (headT false A g ls).2 h ls').1 ↔ g = h ∧ es = es' := by
  have l1 := x.len
  have l2 := y.len
  by_cases h0 : es.length = 0
  · have e1 : headT false A g ls = rootT false A g := by unfold headT; rw [if_pos (by omega)]
    have e2 : headT false (rootT false A g).2 h ls' = rootT false (rootT false A g).2 h := by unfold headT; rw [if_pos (by omega)]
    have z1 : es = [] := List.length_eq_zero_iff.1 h0
    have z2 : es' = [] := List.length_eq_zero_iff.1 (by omega)
    rw [e1, e2, rootT_tab, rootT_tab]
    dsimp only
    have i1 := askT_idx A (thG g)
    have s1 := askT_since (askT A (thG g)).2 (thG h)
    have i2 := askT_idx (askT A (thG g)).2 (thG h)
    have n1 := askT_len A (thG g)
    have n2 := askT_len (askT A (thG g)).2 (thG h)
    constructor
    · intro hk
      have hk' := numT_inj (by have := idxIn_lt i1; omega) (by have := idxIn_lt i2; omega) hk
      have i1' := s1.idx i1
      rw [hk'] at i1'
      exact ⟨thG_inj hg hh (idxIn_eq i1' i2), by rw [z1, z2]⟩
    · rintro ⟨rfl, _⟩
      rw [askT_there i1]
  · obtain ⟨n, hn⟩ : ∃ n, es.length = n + 1 := ⟨es.length - 1, by omega⟩
    have e1 : headT false A g ls = (ls.getD (ls.length - 1) zero32, A) := by unfold headT; rw [if_neg (by omega)]
    have e2 : headT false A h ls' = (ls'.getD (ls'.length - 1) zero32, A) := by unfold headT; rw [if_neg (by omega)]
    rw [e1, e2]
    dsimp only
    have q1 : ls.length - 1 = n := by omega
    have q2 : ls'.length - 1 = n := by omega
    have b1 : n < ls.length := by omega
    have b2 : n < ls'.length := by omega
    rw [q1, q2, List.getD_eq_getElem?_getD, List.getD_eq_getElem?_getD, List.getElem?_eq_getElem b1, List.getElem?_eq_getElem b2]
    constructor
    · intro hk
      have := heads_same (by omega) x y hl hn (by rw [List.getElem?_eq_getElem b1, List.getElem?_eq_getElem b2]; exact congrArg some hk)
      exact ⟨this.2, this.1⟩
    · rintro ⟨rfl, rfl⟩
      obtain ⟨k, h1, h2⟩ := x.link n _ (List.getElem?_eq_getElem (show n < es.length by omega))
      obtain ⟨k', h1', h2'⟩ := y.link n _ (List.getElem?_eq_getElem (show n < es.length by omega))
      rw [h1] at h1'
      cases h1'
      rw [List.getElem?_eq_getElem b1] at h2
      rw [List.getElem?_eq_getElem b2] at h2'
      show ls[n] = ls'[n]
      rw [Option.some.inj h2, Option.some.inj h2']

end Go.Proofs.YtgggpnjjkcfckaaGreat
