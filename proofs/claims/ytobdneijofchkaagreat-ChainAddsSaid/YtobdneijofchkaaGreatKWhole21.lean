/-
  Chains of a real maker are the document's; whole rows.
-/
import Derived.Test.YtobdneijofchkaaGreatKLaw21
import Derived.Test.YtobdneijofchkaaGreatKLaw20
set_option linter.unusedSimpArgs false
set_option linter.unusedVariables false
namespace Go.Proofs.YtobdneijofchkaaGreat
open Go Go.Ev

theorem head_real (asked : List ShThing.T) (game : List Int) (es : List EntryT) : headT true asked game (es.map tag20) = (head20 game es, asked) := by
  unfold headT head20
  rw [List.length_map]
  by_cases h0 : es.length = 0
  · rw [if_pos h0, if_pos h0]; rfl
  · rw [if_neg h0, if_neg h0]
    have hlt : es.length - 1 < es.length := by omega
    simp only [List.getD_eq_getElem?_getD, List.getElem?_map, List.getElem?_eq_getElem hlt, Option.map_some, Option.getD_some]
theorem why_real (asked : List ShThing.T) (game : List Int) (es : List EntryT) (e : EntryT) : whyS true game (asked, es, es.map tag20) e = (why20 game es e, asked) := by
  unfold whyS whyT why20
  simp only [head_real]
  by_cases hg : entryOk e = false
  · rw [if_pos hg, if_pos hg]
  rw [if_neg hg, if_neg hg]
  by_cases hgm : ¬ e.game = game
  · rw [if_pos hgm, if_pos hgm]
  rw [if_neg hgm, if_neg hgm]
  have h0 := (entryOk_num (by simpa using hg)).1
  have hat : atT es e.number = if e.number < (es.length : Int) then (es.getD e.number.toNat entry0, true) else (entry0, false) := by
    unfold atT
    by_cases hlt : e.number < (es.length : Int)
    · rw [if_pos ⟨h0, hlt⟩, if_pos hlt]
    · rw [if_neg (fun h => hlt h.2), if_neg hlt]
  rw [hat]
  by_cases hlt : e.number < (es.length : Int)
  · by_cases h12 : es.getD e.number.toNat entry0 = e
    · simp only [hlt, h12, if_true, and_self, true_and]
    · simp only [hlt, h12, if_true, if_false, and_false, true_and]
  · by_cases h11 : e.number > (es.length : Int)
    · simp only [hlt, h11, if_true, if_false, false_and, Bool.false_eq_true]
    · by_cases h7 : e.ahead = head20 game es
      · simp only [hlt, h11, h7, if_true, if_false, false_and, Bool.false_eq_true, not_true_eq_false]
      · simp only [hlt, h11, h7, if_true, if_false, false_and, Bool.false_eq_true, not_false_eq_true]
theorem add_real (asked : List ShThing.T) (game : List Int) : ∀ (l es : List EntryT), addT true game (asked, es, es.map tag20) l = ((add20 game es l).1, (asked, (add20 game es l).2, (add20 game es l).2.map tag20))
  | [], es => by simp [addT, add20]
  | e :: l, es => by
    rw [addT, add20, why_real]
    dsimp only
    by_cases hw : why20 game es e = 0
    · rw [if_pos hw, if_pos hw]
      have hlk : linkT true asked e = (tag20 e, asked) := rfl
      rw [hlk]
      have : es.map tag20 ++ [tag20 e] = (es ++ [e]).map tag20 := by simp
      dsimp only
      rw [this]
      exact add_real asked game l (es ++ [e])
    · rw [if_neg hw, if_neg hw]

def wholeT (game : List Int) (l : List EntryT) : Nat × Int := ((add20 game [] l).2.length, (add20 game [] l).1)

end Go.Proofs.YtobdneijofchkaaGreat
