/-
  In plain Lean: what a table tells does not hang on which move is sealed.
-/
import Derived.Test.YtijipdaofojbiaaKHides22
import Derived.Test.YtijipdaofojbiaaKSeal
set_option linter.unusedSimpArgs false
set_option linter.unusedVariables false
namespace Go.Proofs.Ytijipdaofojbiaa
open Go Go.Ev

/-- What is asked of what does not bear the mark, alone and under a key. -/
def asks24 (game : List Int) : List ShThing.T → List (List Int) → List (List Int) × List ShThing.T
  | A, [] => ([], A)
  | A, x :: l => if markT x = true then asks24 game A l else
      (numT ((askT A (thS x)).1 : Int) :: numT ((askT (askT A (thS x)).2 (thM game x)).1 : Int) :: (asks24 game (askT (askT A (thS x)).2 (thM game x)).2 l).1, (asks24 game (askT (askT A (thS x)).2 (thM game x)).2 l).2)
theorem thSM (a k b : List Int) : ¬ thM k b = thS a := fun e => absurd (congrArg (fun x : ShThing.T => x.1) e) (by show ¬ (109 : Int) = 115; decide)
theorem Sim.asks24 {game u v : List Int} (hu : ∀ x ∈ u, isByte x) (hv : ∀ x ∈ v, isByte x) (mu : markT u = true) (mv : markT v = true) : ∀ (l : List (List Int)) (A B : List ShThing.T), (∀ xs ∈ l, ∀ x ∈ xs, isByte x) → Sim (thS u) (thS v) A B → (asks24 game A l).1 = (asks24 game B l).1
  | [], A, B, _, _ => rfl
  | x :: l, A, B, hl, s => by
    unfold Proofs.Ytijipdaofojbiaa.asks24
    by_cases h : markT x = true
    · rw [if_pos h, if_pos h]
      exact Sim.asks24 hu hv mu mv l A B (fun xs hx => hl xs (by simp [hx])) s
    · rw [if_neg h, if_neg h]
      have hx := hl x (by simp)
      have n1 : ¬ thS x = thS u := fun e => h (by rw [thS_inj hx hu e]; exact mu)
      have n2 : ¬ thS x = thS v := fun e => h (by rw [thS_inj hx hv e]; exact mv)
      obtain ⟨e1, s2⟩ := s.ask n1 n2
      obtain ⟨e3, s4⟩ := s2.ask (x := thM game x) (thSM _ _ _) (thSM _ _ _)
      have ih := Sim.asks24 (game := game) hu hv mu mv l _ _ (fun xs hx => hl xs (by simp [hx])) s4
      dsimp only
      rw [e1, e3, ih]
theorem askT_other {A : List ShThing.T} {x y : ShThing.T} (h : y ∉ A) (n : ¬ y = x) : y ∉ (askT A x).2 := by
  unfold askT
  split
  · exact h
  · simp [h, n]
theorem asks24_mem {game u : List Int} (hu : ∀ x ∈ u, isByte x) (mu : markT u = true) : ∀ (l : List (List Int)) (A : List ShThing.T), (∀ xs ∈ l, ∀ x ∈ xs, isByte x) → thS u ∉ A → thS u ∉ (asks24 game A l).2
  | [], A, _, h => h
  | x :: l, A, hl, h => by
    unfold Proofs.Ytijipdaofojbiaa.asks24
    by_cases hm : markT x = true
    · rw [if_pos hm]
      exact asks24_mem hu mu l A (fun xs hx => hl xs (by simp [hx])) h
    · rw [if_neg hm]
      have hx := hl x (by simp)
      have n1 : ¬ thS u = thS x := fun e => hm (by rw [← thS_inj hu hx e]; exact mu)
      exact asks24_mem hu mu l _ (fun xs hx => hl xs (by simp [hx])) (askT_other (askT_other h n1) fun e => thSM _ _ _ e.symm)
theorem asks24_snoc (game x : List Int) : ∀ (l : List (List Int)) (A : List ShThing.T), asks24 game A (l ++ [x]) = if markT x = true then asks24 game A l else
    ((asks24 game A l).1 ++ [numT ((askT (asks24 game A l).2 (thS x)).1 : Int), numT ((askT (askT (asks24 game A l).2 (thS x)).2 (thM game x)).1 : Int)], (askT (askT (asks24 game A l).2 (thS x)).2 (thM game x)).2)
  | [], A => by
    simp only [List.nil_append, asks24]
  | y :: l, A => by
    simp only [List.cons_append, asks24, asks24_snoc game x l]
    by_cases h : markT y = true <;> by_cases h' : markT x = true <;> simp [h, h']
theorem asks24_len (game : List Int) : ∀ (l : List (List Int)) (A : List ShThing.T), (asks24 game A l).1.length ≤ 2 * l.length
  | [], A => by simp [asks24]
  | y :: l, A => by
    unfold asks24
    split
    · have := asks24_len game l A; simp; omega
    · have := asks24_len game l (askT (askT A (thS y)).2 (thM game y)).2; simp; omega

/-- A run: what is asked, a nonce, a seal, its tag under the game's key, what is asked again. -/
def drawn24 (game : List Int) (asked : List (List Int)) (k : Int) : Nat × List ShThing.T := askT (asks24 game [] asked).2 (thD k)
def made24 (game : List Int) (number : Int) (x : MoveT) (asked : List (List Int)) (k : Int) : List Int × Int × List ShThing.T := moveT22 false (drawn24 game asked k).2 game number x (numT ((drawn24 game asked k).1 : Int))
def run24 (game : List Int) (number : Int) (x : MoveT) (asked : List (List Int)) (k : Int) : List (List Int) :=
  (asks24 game [] asked).1 ++ [(made24 game number x asked k).1, numT ((askT (made24 game number x asked k).2.2 (thM game (made24 game number x asked k).1)).1 : Int)] ++ (asks24 game (askT (made24 game number x asked k).2.2 (thM game (made24 game number x asked k).1)).2 asked).1
theorem moveRowsB (game : List Int) (number : Int) (x : MoveT) (hg : ∀ z ∈ game, isByte z) : ∀ z ∈ rowsB (moveRows game number x), isByte z := by
  intro z hz
  obtain ⟨r, h1, h2⟩ := List.mem_flatten.1 hz
  obtain ⟨xs, h3, rfl⟩ := List.mem_map.1 h1
  rcases List.mem_append.1 h2 with h2 | h2
  · simp only [fourB, List.mem_cons, List.mem_nil_iff, or_false] at h2
    rcases h2 with rfl | rfl | rfl | rfl <;> exact isByte_wrap _
  · simp only [moveRows, List.mem_cons, List.mem_nil_iff, or_false] at h3
    rcases h3 with rfl | rfl | rfl | rfl
    · simp only [movB, List.mem_cons, List.mem_nil_iff, or_false] at h2
      rcases h2 with rfl | rfl | rfl | rfl <;> (unfold isByte; omega)
    · exact hg z h2
    · simp only [fourB, List.mem_cons, List.mem_nil_iff, or_false] at h2
      rcases h2 with rfl | rfl | rfl | rfl <;> exact isByte_wrap _
    · simp only [List.mem_cons, List.mem_nil_iff, or_false] at h2
      rcases h2 with rfl | rfl | rfl <;> exact isByte_wrap _
theorem run24_same (game : List Int) (hg : ∀ z ∈ game, isByte z) (number : Int) (x y : MoveT) (asked : List (List Int)) (hby : ∀ xs ∈ asked, ∀ z ∈ xs, isByte z) (k : Int) (hx : (made24 game number x asked k).2.1 = 0) (hy : (made24 game number y asked k).2.1 = 0) :
    run24 game number x asked k = run24 game number y asked k := by
  obtain ⟨n, A, hnA⟩ : ∃ n A, drawn24 game asked k = (n, A) := ⟨_, _, rfl⟩
  have hide : ∀ x ∈ hideB, isByte x := by simp [hideB, isByte]
  have byt : ∀ r : List (List Int), (∀ x ∈ rowsB r, isByte x) → ∀ x ∈ hideB ++ bodyB22 (numT (n : Int)) r, isByte x := by
    intro r hr x hx
    rcases List.mem_append.1 hx with h | h
    · exact hide x h
    · rcases List.mem_append.1 h with h | h
      · exact hr x h
      · exact numT_byte _ x h
  have mrk : ∀ r : List (List Int), (∀ x ∈ rowsB r, isByte x) → markT (hideB ++ bodyB22 (numT (n : Int)) r) = true := by
    intro r hr
    unfold bodyB22
    rw [← List.append_assoc]
    refine markT_tail _ [] n fun x hx => ?_
    rcases List.mem_append.1 hx with h | h
    · exact hide x h
    · exact hr x h
  have notin : ∀ r : List (List Int), (∀ x ∈ rowsB r, isByte x) → thS (hideB ++ bodyB22 (numT (n : Int)) r) ∉ A := by
    intro r hr
    have h := asks24_mem (game := game) (byt r hr) (mrk r hr) asked [] hby (by simp)
    have e : A = (askT (asks24 game [] asked).2 (thD k)).2 := by
      have := congrArg Prod.snd hnA
      exact this.symm
    rw [e]
    exact askT_other h fun e => absurd (congrArg (fun x : ShThing.T => x.1) e) (by show ¬ (115 : Int) = 100; decide)
  have mov : ∀ z : MoveT, (made24 game number z asked k).2.1 = 0 → made24 game number z asked k = (numT (A.length : Int), 0, A ++ [thS (hideB ++ bodyB22 (numT (n : Int)) (moveRows game number z))]) := by
    intro z hz
    unfold made24 at hz ⊢
    rw [hnA] at hz ⊢
    dsimp only at hz ⊢
    unfold moveT22 someT at hz ⊢
    by_cases his : moveIs number z = true
    · rw [if_pos his] at hz ⊢
      unfold coverT at hz ⊢
      by_cases hl : (bodyB22 (numT (n : Int)) (moveRows game number z)).length ≤ 65536
      · rw [if_pos hl]
        unfold sum2
        rw [if_neg (by simp), askT_new (notin _ (moveRowsB game number z hg))]
      · rw [if_neg hl] at hz
        exact absurd (show (3 : Int) = 0 from hz) (by decide)
    · rw [if_neg his] at hz
      exact absurd (show (2 : Int) = 0 from hz) (by decide)
  unfold run24
  rw [mov x hx, mov y hy]
  dsimp only
  have s0 : Sim (thS (hideB ++ bodyB22 (numT (n : Int)) (moveRows game number x))) (thS (hideB ++ bodyB22 (numT (n : Int)) (moveRows game number y))) (A ++ [thS (hideB ++ bodyB22 (numT (n : Int)) (moveRows game number x))]) (A ++ [thS (hideB ++ bodyB22 (numT (n : Int)) (moveRows game number y))]) := ⟨A, [], rfl, rfl⟩
  obtain ⟨e1, s1⟩ := s0.ask (x := thM game (numT (A.length : Int))) (thSM _ _ _) (thSM _ _ _)
  have hbx := moveRowsB game number x hg
  have hb' := moveRowsB game number y hg
  have e2 := Sim.asks24 (game := game) (byt _ hbx) (byt _ hb') (mrk _ hbx) (mrk _ hb') asked _ _ hby s1
  rw [e1, e2]

end Go.Proofs.Ytijipdaofojbiaa
