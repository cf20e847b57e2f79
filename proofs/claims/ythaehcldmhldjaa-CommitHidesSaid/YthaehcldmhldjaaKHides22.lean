/-
  In plain Lean: what a table tells does not hang on what is covered.
-/
import Derived.Test.YthaehcldmhldjaaKCommit
set_option linter.unusedSimpArgs false
set_option linter.unusedVariables false
namespace Go.Proofs.Ythaehcldmhldjaa
open Go Go.Ev

theorem idxIn_none2 {α : Type} [DecidableEq α] {y : α} : ∀ {xs : List α}, idxIn y xs = none ↔ y ∉ xs
  | [] => by simp [idxIn]
  | x :: xs => by
    by_cases e : y = x
    · simp [idxIn, e]
    · simp only [idxIn, if_neg e, Option.map_eq_none_iff, List.mem_cons, not_or]
      exact ⟨fun h => ⟨e, (idxIn_none2 (y := y) (xs := xs)).1 h⟩, fun h => (idxIn_none2 (y := y) (xs := xs)).2 h.2⟩
theorem askT_new {A : List ShThing.T} {x : ShThing.T} (h : x ∉ A) : askT A x = (A.length, A ++ [x]) := by
  unfold askT
  rw [idxIn_none2.2 h]
/-- Lists that are alike but for one thing. -/
def Sim (y z : ShThing.T) (A B : List ShThing.T) : Prop := ∃ P Q : List ShThing.T, A = P ++ y :: Q ∧ B = P ++ z :: Q
theorem idxIn_mid {x y z : ShThing.T} (hy : ¬ x = y) (hz : ¬ x = z) : ∀ P Q : List ShThing.T, idxIn x (P ++ y :: Q) = idxIn x (P ++ z :: Q)
  | [], Q => by simp only [List.nil_append, idxIn, if_neg hy, if_neg hz]
  | p :: P, Q => by
    simp only [List.cons_append, idxIn, idxIn_mid hy hz P Q]
theorem Sim.ask {x y z : ShThing.T} {A B : List ShThing.T} (s : Sim y z A B) (hy : ¬ x = y) (hz : ¬ x = z) : (askT A x).1 = (askT B x).1 ∧ Sim y z (askT A x).2 (askT B x).2 := by
  obtain ⟨P, Q, rfl, rfl⟩ := s
  have h := idxIn_mid hy hz P Q
  unfold askT
  rw [h]
  cases idxIn x (P ++ z :: Q) with
  | some k => exact ⟨rfl, P, Q, rfl, rfl⟩
  | none => exact ⟨by simp, P, Q ++ [x], by simp, by simp⟩

/-- What is asked, but for what bears the mark. -/
def asks22 : List ShThing.T → List (List Int) → List (List Int) × List ShThing.T
  | A, [] => ([], A)
  | A, x :: l => if markT x = true then asks22 A l else (numT ((askT A (thS x)).1 : Int) :: (asks22 (askT A (thS x)).2 l).1, (asks22 (askT A (thS x)).2 l).2)
theorem thS_inj {a b : List Int} (ha : ∀ x ∈ a, isByte x) (hb : ∀ x ∈ b, isByte x) (h : thS a = thS b) : a = b := strOf_inj ha hb (congrArg (fun x : ShThing.T => x.2.2.1) h)
theorem Sim.asks {u v : List Int} (hu : ∀ x ∈ u, isByte x) (hv : ∀ x ∈ v, isByte x) (mu : markT u = true) (mv : markT v = true) : ∀ (l : List (List Int)) (A B : List ShThing.T), (∀ xs ∈ l, ∀ x ∈ xs, isByte x) → Sim (thS u) (thS v) A B → (asks22 A l).1 = (asks22 B l).1
  | [], A, B, _, _ => rfl
  | x :: l, A, B, hl, s => by
    unfold asks22
    by_cases h : markT x = true
    · rw [if_pos h, if_pos h]
      exact Sim.asks hu hv mu mv l A B (fun xs hx => hl xs (by simp [hx])) s
    · rw [if_neg h, if_neg h]
      have hx := hl x (by simp)
      have n1 : ¬ thS x = thS u := fun e => h (by rw [thS_inj hx hu e]; exact mu)
      have n2 : ¬ thS x = thS v := fun e => h (by rw [thS_inj hx hv e]; exact mv)
      obtain ⟨e1, s2⟩ := s.ask n1 n2
      have ih := Sim.asks hu hv mu mv l _ _ (fun xs hx => hl xs (by simp [hx])) s2
      dsimp only
      rw [e1, ih]
/-- Nothing that was asked so is a text with the mark. -/
theorem asks22_mem {u : List Int} (hu : ∀ x ∈ u, isByte x) (mu : markT u = true) : ∀ (l : List (List Int)) (A : List ShThing.T), (∀ xs ∈ l, ∀ x ∈ xs, isByte x) → thS u ∉ A → thS u ∉ (asks22 A l).2
  | [], A, _, h => h
  | x :: l, A, hl, h => by
    unfold asks22
    by_cases hm : markT x = true
    · rw [if_pos hm]
      exact asks22_mem hu mu l A (fun xs hx => hl xs (by simp [hx])) h
    · rw [if_neg hm]
      refine asks22_mem hu mu l _ (fun xs hx => hl xs (by simp [hx])) ?_
      have hx := hl x (by simp)
      have n1 : ¬ thS u = thS x := fun e => hm (by rw [← thS_inj hu hx e]; exact mu)
      unfold askT
      split
      · exact h
      · simp [h, n1]
/-- A text with a table's nonce behind bears the mark. -/
theorem markT_tail (a b : List Int) (n : Int) (ha : ∀ x ∈ a, isByte x) : markT (a ++ numT n) = true := by
  refine (markT_iff (fun x hx => ?_)).2 ⟨a.length, by simp [numT_length], ?_⟩
  · rcases List.mem_append.1 hx with h | h
    · exact ha x h
    · exact numT_byte n x h
  · rw [List.drop_left]
    rfl
/-- A run: what is asked ahead, a nonce, a cover, what is asked behind. -/
def run22 (ahead behind : List (List Int)) (draws : Int) (rows : List (List Int)) : List (List Int) :=
  (asks22 [] ahead).1 ++ (coverT false (askT (asks22 [] ahead).2 (thD draws)).2 (numT ((askT (asks22 [] ahead).2 (thD draws)).1 : Int)) rows).1 :: (asks22 (coverT false (askT (asks22 [] ahead).2 (thD draws)).2 (numT ((askT (asks22 [] ahead).2 (thD draws)).1 : Int)) rows).2.2 behind).1
theorem run22_same (ahead behind : List (List Int)) (draws : Int) (a b : List (List Int)) (h1 : ∀ xs ∈ ahead, ∀ x ∈ xs, isByte x) (h2 : ∀ xs ∈ behind, ∀ x ∈ xs, isByte x) (ha : ∀ x ∈ rowsB a, isByte x) (hb : ∀ x ∈ rowsB b, isByte x) (la : (rowsB a).length ≤ 60000) (lb : (rowsB b).length ≤ 60000) :
    run22 ahead behind draws a = run22 ahead behind draws b := by
  unfold run22
  generalize hA : (askT (asks22 [] ahead).2 (thD draws)).2 = A
  generalize hn : (askT (asks22 [] ahead).2 (thD draws)).1 = n
  have hide : ∀ x ∈ hideB, isByte x := by simp [hideB, isByte]
  have byt : ∀ r : List (List Int), (∀ x ∈ rowsB r, isByte x) → ∀ x ∈ hideB ++ bodyB22 (numT (n : Int)) r, isByte x := by
    intro r hr x hx
    rcases List.mem_append.1 hx with h | h
    · exact hide x h
    · rcases List.mem_append.1 h with h | h
      · exact hr x h
      · exact numT_byte _ x h
  have mrk : ∀ r : List (List Int), (∀ x ∈ rowsB r, isByte x) → markT (hideB ++ bodyB22 (numT (n : Int)) r) = true := by
    intro r hr
    unfold bodyB22
    rw [← List.append_assoc]
    refine markT_tail _ [] n fun x hx => ?_
    rcases List.mem_append.1 hx with h | h
    · exact hide x h
    · exact hr x h
  have notin : ∀ r : List (List Int), (∀ x ∈ rowsB r, isByte x) → thS (hideB ++ bodyB22 (numT (n : Int)) r) ∉ A := by
    intro r hr
    have h := asks22_mem (byt r hr) (mrk r hr) ahead [] h1 (by simp)
    rw [← hA]
    have nd : ¬ thS (hideB ++ bodyB22 (numT (n : Int)) r) = thD draws := fun e => absurd (congrArg (fun x : ShThing.T => x.1) e) (by show ¬ (115 : Int) = 100; decide)
    unfold askT
    split
    · exact h
    · simp [h, nd]
  have cov : ∀ r : List (List Int), (∀ x ∈ rowsB r, isByte x) → (rowsB r).length ≤ 60000 → coverT false A (numT (n : Int)) r = (numT (A.length : Int), 0, A ++ [thS (hideB ++ bodyB22 (numT (n : Int)) r)]) := by
    intro r hr hl
    unfold coverT
    rw [if_pos (by simp [bodyB22, numT_length]; omega)]
    unfold sum2
    rw [if_neg (by simp), askT_new (notin r hr)]
  rw [cov a ha la, cov b hb lb]
  dsimp only
  have := Sim.asks (byt a ha) (byt b hb) (mrk a ha) (mrk b hb) behind (A ++ [thS (hideB ++ bodyB22 (numT (n : Int)) a)]) (A ++ [thS (hideB ++ bodyB22 (numT (n : Int)) b)]) h2 ⟨A, [], rfl, rfl⟩
  rw [this]

end Go.Proofs.Ythaehcldmhldjaa
