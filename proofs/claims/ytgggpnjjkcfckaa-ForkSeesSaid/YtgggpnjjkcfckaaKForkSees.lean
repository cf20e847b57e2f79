/-
  The statements ForkSees, ForkBook.
-/
import Derived.Test.YtgggpnjjkcfckaaKBook21
set_option linter.unusedSimpArgs false
set_option linter.unusedVariables false
namespace Go.Proofs.Ytgggpnjjkcfckaa
open Go Go.Ev

abbrev RowsE := Sh.sl ShEntry
theorem szRow : sizeOfT Try.prog T.sl_api_Entry = (RowsE).size := by kernel_rfl

/-- How long rows are, all in all, as far as it matters. -/
def lensTo (rows : List (List EntryT)) (i : Nat) : Nat := ((rows.take i).map List.length).sum
theorem lensTo_succ {rows : List (List EntryT)} {i : Nat} (h : i < rows.length) : lensTo rows (i + 1) = lensTo rows i + rows[i].length := by
  unfold lensTo; rw [List.take_succ_eq_append_getElem h, List.map_append, List.sum_append]; simp
theorem lensTo_mono {rows : List (List EntryT)} {i j : Nat} (h : i ≤ j) : lensTo rows i ≤ lensTo rows j := by
  induction j with
  | zero => have : i = 0 := by omega
            subst this; exact Nat.le_refl _
  | succ j ih =>
    by_cases hij : i = j + 1
    · subst hij; exact Nat.le_refl _
    · refine Nat.le_trans (ih (by omega)) ?_
      by_cases hj : j < rows.length
      · rw [lensTo_succ hj]; omega
      · unfold lensTo; rw [List.take_of_length_le (by omega), List.take_of_length_le (by omega)]; exact Nat.le_refl _

/-- A row of a row of rows. -/
theorem idxRow {g : GH} {c : Nat} {v : Sl} {rows : List (List EntryT)} {i : Nat} (r : SlC g c RowsE v rows) (hi : i < rows.length) {K : Sl → Prop}
    (H : ∀ s : Sl, SlC g c ShEntry s rows[i] → K s) : idxK v (i : Int) (sizeOfT Try.prog T.sl_api_Entry) (fun a => loadK .slice g.h (some a) K) :=
  r.idx szRow (by decide) hi fun b o cs hcs lay => by
    obtain ⟨s, rfl, hs⟩ := LayC.sl lay
    exact loadK_cells hcs (k := .slice) (j := 0) s rfl rfl (H s hs)

set_option maxHeartbeats 1000000 in
theorem ForkSees_spec (g : GH) (va vb : Sl) (l : List EntryT) (rows : List (List EntryT)) {c d : Nat} (ha : SlC g c ShEntry va l) (hb : SlC g d RowsE vb rows) {R : Value → Heap → Prop} (H : ∀ g' : GH, Mv [] g g' → R (.bool true) g'.h) :
    HC Try.prog F.law21_ForkSees #[.slice va.a va.n va.c, .slice vb.a vb.n vb.c] R g.h := by
  refine law21_ForkSees.calls (l0 := va) (rows1 := vb) ?_
  unfold law21_ForkSees.body
  have hn := ha.len
  have hm := hb.len
  have hs1 := ha.small
  have hs2 := hb.small
  have m := Mv.refl [1, 2, 3, 4, 5, 6, 7] g.base
  have fin : ∀ q : GH, Mv [1, 2, 3, 4, 5, 6, 7] g.base q → R (.bool true) q.h := fun q m => H (g.via q fun _ => 0) (m.via (by simp) _)
  rw [show IntKind.i64.wrap ((va.n : Int) + (vb.n : Int)) = ((va.n + vb.n : Nat) : Int) from by rw [wrapI64 (by omega) (by omega)]; omega]
  have ax : SlC g.base 0 ShEntry va l := ha.arg m (by simp)
  have bx : SlC g.base 0 RowsE vb rows := hb.arg m (by simp)
  refine joinW_intro (fun (s : Int) h' => h' = g.base.h ∧ (s ≤ 200 → l.length + rows.length + lensTo rows rows.length ≤ 200)) ?_ ?_
  · intro J hJ
    refine loopW_rule (fun st h' => ∃ i : Nat, i ≤ rows.length ∧ st = (((va.n + vb.n + lensTo rows i : Nat) : Int), (i : Int)) ∧ h' = g.base.h ∧ (0 < i → va.n + vb.n + lensTo rows (i - 1) ≤ 200)) (fun st => rows.length - st.2.toNat) ⟨0, by omega, rfl, rfl, by simp⟩ ?_
    rintro X _ _ ⟨i, hi, rfl, rfl, hpre⟩ hX
    dsimp only
    by_cases hlt : i < rows.length
    · rw [if_pos (by simp [hm]; omega)]
      by_cases h200 : va.n + vb.n + lensTo rows i ≤ 200
      · rw [if_pos (by simp; omega)]
        refine idxRow bx hlt fun s hs => ?_
        have hsl := hs.len
        have hss := hs.small
        rw [wrapSucc (by omega)]
        rw [show IntKind.i64.wrap (((va.n + vb.n + lensTo rows i : Nat) : Int) + (s.n : Int)) = ((va.n + vb.n + lensTo rows (i + 1) : Nat) : Int) from by rw [wrapI64 (by omega) (by omega), lensTo_succ hlt, hsl]; omega]
        exact hX _ _ ⟨i + 1, by omega, rfl, rfl, fun _ => by simpa using h200⟩ (by simp; omega)
      · rw [if_neg (by simp; omega)]
        exact hJ _ _ ⟨rfl, fun h => absurd h (by omega)⟩
    · rw [if_neg (by simp [hm]; omega)]
      have hi' : i = rows.length := by omega
      subst hi'
      exact hJ _ _ ⟨rfl, fun h => by omega⟩
  · rintro s _ ⟨rfl, hle⟩
    by_cases hgt : s > 200
    · rw [if_pos (by simpa using hgt)]
      exact awake21_spec g.base fun q m => ⟨_, rfl, fin q (m.mono (by simp))⟩
    · rw [if_neg (by simpa using hgt)]
      have htot := hle (by omega)
      refine LentEntries_C g.base 1 va l ax (by omega) fun s1 q1 m1 o1 => ⟨_, rfl, ?_⟩
      replace m := m.step m1 (by simp)
      refine forkNew_spec q1 2 3 (by decide) s1 l (o1.slc rfl (by omega)) (by omega) fun pb q2 m2 xb => ⟨_, rfl, ?_⟩
      replace m := m.step m2 (by simp)
      replace o1 := o1.mv m2 (by simp)
      refine ⟨#[slV va], fun w => by kernel_rfl, ?_⟩
      refine new_C q2 4 fun pr q3 m3 b3 => ?_
      replace m := m.step m3 (by simp)
      replace o1 := o1.mv m3 (by simp)
      replace xb := xb.mv m3 (by simp) (by simp)
      have xr : Book21 q3 4 5 pr l := ⟨va, b3, .inl (ha.arg m (by simp))⟩
      have how : OwnC T.api_Entry (ShEntry).size q3 1 s1 (l.flatMap ShEntry.enc) := (o1.owned rfl).own
      refine OverEntries_C s1 how (by have := o1.len; omega) fun q4 m4 => ⟨(), rfl, ?_⟩
      replace m := m.step m4 (by simp)
      replace xb := xb.mv m4 (by simp) (by simp)
      replace xr := xr.mv m4 (by simp) (by simp) (by simp)
      refine loopW_rule (fun st h' => ∃ (i : Nat) (es : List EntryT) (q : GH), i ≤ rows.length ∧ st = (i : Int) ∧ h' = q.h ∧ Mv [1, 2, 3, 4, 5, 6, 7] g.base q ∧ BookC q 2 3 pb es ∧ Book21 q 4 5 pr es ∧ es.length ≤ 200) (fun st => rows.length - st.toNat)
        ⟨0, l, q4, by omega, rfl, rfl, m, xb, xr, by omega⟩ ?_
      clear m m1 m2 m3 m4 xb xr how o1 b3
      rintro X _ _ ⟨i, es, q, hi, rfl, rfl, m, xb, xr, hes⟩ hX
      by_cases hlt : i < rows.length
      · rw [if_pos (by simp [hm]; omega)]
        have hrl : rows[i].length ≤ 200 := by
          have h1 := lensTo_mono (rows := rows) (i := i + 1) (j := rows.length) (by omega)
          rw [lensTo_succ hlt] at h1
          omega
        have hsee : (seeT es rows[i]).length ≤ 200 := by unfold seeT; split <;> omega
        have bq : SlC q 0 RowsE vb rows := hb.arg m (by simp)
        refine idxRow bq hlt fun s5 hs5 => ?_
        refine LentEntries_C q 6 s5 rows[i] hs5 (by omega) fun s6 q6 m6 o6 => ⟨_, rfl, ?_⟩
        replace m := m.step m6 (by simp)
        replace xb := xb.mv m6 (by simp) (by simp)
        replace xr := xr.mv m6 (by simp) (by simp) (by simp)
        dsimp only
        refine see_spec (by decide) (by decide) xb s6 rows[i] (o6.slc rfl (by omega)) (by omega) (by omega) fun q7 m7 xb => ⟨((compareT rows[i] es).1, ((compareT rows[i] es).2 : Int)), rfl, ?_⟩
        replace m := m.step m7 (by simp)
        replace xr := xr.mv m7 (by simp) (by simp) (by simp)
        replace o6 := o6.mv m7 (by simp)
        have bq7 : SlC q7 0 RowsE vb rows := hb.arg m (by simp)
        refine idxRow bq7 hlt fun s8 hs8 => ?_
        refine see21_spec (by decide) (by decide) (by decide) xr s8 rows[i] hs8 (by omega) fun q9 m9 xr => ⟨((compareT rows[i] es).1, ((compareT rows[i] es).2 : Int)), rfl, ?_⟩
        replace m := m.step m9 (by simp)
        replace xb := xb.mv m9 (by simp) (by simp)
        replace o6 := o6.mv m9 (by simp)
        dsimp only
        rw [if_neg (by simp), if_neg (by simp)]
        have bq9 : SlC q9 0 RowsE vb rows := hb.arg m (by simp)
        refine idxRow bq9 hlt fun s10 hs10 => ?_
        refine KeptEntries_C s6 s10 rows[i] o6 hs10 (by omega) fun q11 m11 => ⟨_, rfl, ?_⟩
        replace m := m.step m11 (by simp)
        replace xb := xb.mv m11 (by simp) (by simp)
        replace xr := xr.mv m11 (by simp) (by simp) (by simp)
        replace o6 := o6.mv m11 (by simp)
        dsimp only
        rw [if_neg (by simp)]
        refine OverEntries_C s6 (o6.owned rfl).own (by have := o6.len; omega) fun q12 m12 => ⟨(), rfl, ?_⟩
        replace m := m.step m12 (by simp)
        replace xb := xb.mv m12 (by simp) (by simp)
        replace xr := xr.mv m12 (by simp) (by simp) (by simp)
        refine row_spec 7 xb (by omega) fun s13 q13 m13 o13 => ⟨_, rfl, ?_⟩
        replace m := m.step m13 (by simp)
        replace xb := xb.mv m13 (by simp) (by simp)
        replace xr := xr.mv m13 (by simp) (by simp) (by simp)
        refine OverEntries_C s13 o13.own (by have := o13.len; omega) fun q14 m14 => ⟨(), rfl, ?_⟩
        replace m := m.step m14 (by simp)
        replace xb := xb.mv m14 (by simp) (by simp)
        replace xr := xr.mv m14 (by simp) (by simp) (by simp)
        obtain ⟨sr, br, orr⟩ := xr
        dsimp only
        rw [derefK_some, fldK_some, loadK_C br]
        refine ⟨sr, rfl, ?_⟩
        refine row_spec 7 xb (by omega) fun s15 q15 m15 o15 => ⟨_, rfl, ?_⟩
        replace m := m.step m15 (by simp)
        replace xb := xb.mv m15 (by simp) (by simp)
        have br15 := br.mv m15 (by simp)
        refine ⟨stillK_C br15 rfl, ?_⟩
        have orr' : SlC q15 0 ShEntry sr (seeT es rows[i]) ∨ SlC q15 5 ShEntry sr (seeT es rows[i]) := orr.imp (fun o => o.mv m15 (by simp)) fun o => o.mv m15 (by simp)
        obtain ⟨e, he⟩ : ∃ e, SlC q15 e ShEntry sr (seeT es rows[i]) := by rcases orr' with o | o <;> exact ⟨_, o⟩
        refine SameEntries_spec s15 sr _ _ (o15.slc rfl (by omega)) he ⟨_, rfl, ?_⟩
        dsimp only
        rw [if_neg (by simp), wrapSucc (by omega)]
        exact hX _ _ ⟨i + 1, seeT es rows[i], q15, by omega, rfl, rfl, m, xb, ⟨sr, br15, orr'⟩, hsee⟩ (by simp; omega)
      · rw [if_neg (by simp [hm]; omega)]
        exact awake21_spec q fun q' m' => ⟨_, rfl, fin q' (m.step m' (by simp))⟩

theorem ForkSees_walk {h : Heap} (a : Option Addr) (la ca : Nat) (x : List EntryT) (w : Lay h (.sl ShEntry) x [.slice a la ca]) (b : Option Addr) (lb cb : Nat) (y : List (List EntryT)) (w' : Lay h (.sl (.sl ShEntry)) y [.slice b lb cb]) :
    HC Try.prog F.law21_ForkSees #[.slice a la ca, .slice b lb cb] (fun v h' => v = .bool true ∧ Ext h h') h :=
  ForkSees_spec ⟨h, fun _ => 0⟩ ⟨a, la, ca⟩ ⟨b, lb, cb⟩ x y (c := 0) (d := 0) (w.arg (Mv.refl [] _) (by simp)) (w'.arg (Mv.refl [] _) (by simp)) fun g' m => ⟨rfl, m.ext (by simp)⟩

end Go.Proofs.Ytgggpnjjkcfckaa
