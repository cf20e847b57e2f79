/-
  The statement ForkBook.
-/
import Derived.Test.YtgggpnjjkcfckaaKForkSees
set_option linter.unusedSimpArgs false
set_option linter.unusedVariables false
namespace Go.Proofs.Ytgggpnjjkcfckaa
open Go Go.Ev

set_option maxHeartbeats 1000000 in
theorem ForkBook_spec (g : GH) (va vb : Sl) (l : List EntryT) (rows : List (List EntryT)) {c d : Nat} (ha : SlC g c ShEntry va l) (hb : SlC g d RowsE vb rows) {R : Value → Heap → Prop} (H : ∀ g' : GH, Mv [] g g' → R (.bool true) g'.h) :
    HC Try.prog F.law21_ForkBook #[.slice va.a va.n va.c, .slice vb.a vb.n vb.c] R g.h := by
  refine law21_ForkBook.calls (l0 := va) (rows1 := vb) ?_
  unfold law21_ForkBook.body
  have hn := ha.len
  have hm := hb.len
  have hs1 := ha.small
  have hs2 := hb.small
  have m := Mv.refl [2, 7] g.base
  have fin : ∀ q : GH, Mv [2, 7] g.base q → R (.bool true) q.h := fun q m => H (g.via q fun _ => 0) (m.via (by simp) _)
  refine awake21_spec g.base fun q1 m1 => ⟨_, rfl, ?_⟩
  replace m := m.step m1 (by simp)
  dsimp only
  rw [if_neg (by simp)]
  rw [show IntKind.i64.wrap ((va.n : Int) + (vb.n : Int)) = ((va.n + vb.n : Nat) : Int) from by rw [wrapI64 (by omega) (by omega)]; omega]
  have ax : SlC q1 0 ShEntry va l := ha.arg m (by simp)
  have bx : SlC q1 0 RowsE vb rows := hb.arg m (by simp)
  refine joinW_intro (fun (s : Int) h' => h' = q1.h ∧ (s ≤ 200 → l.length + rows.length + lensTo rows rows.length ≤ 200)) ?_ ?_
  · intro J hJ
    refine loopW_rule (fun st h' => ∃ i : Nat, i ≤ rows.length ∧ st = (((va.n + vb.n + lensTo rows i : Nat) : Int), (i : Int)) ∧ h' = q1.h ∧ (0 < i → va.n + vb.n + lensTo rows (i - 1) ≤ 200)) (fun st => rows.length - st.2.toNat) ⟨0, by omega, rfl, rfl, by simp⟩ ?_
    rintro X _ _ ⟨i, hi, rfl, rfl, hpre⟩ hX
    dsimp only
    by_cases hlt : i < rows.length
    · rw [if_pos (by simp [hm]; omega)]
      by_cases h200 : va.n + vb.n + lensTo rows i ≤ 200
      · rw [if_pos (by simp; omega)]
        refine idxRow bx hlt fun s hs => ?_
        have hsl := hs.len
        have hss := hs.small
        rw [wrapSucc (by omega)]
        rw [show IntKind.i64.wrap (((va.n + vb.n + lensTo rows i : Nat) : Int) + (s.n : Int)) = ((va.n + vb.n + lensTo rows (i + 1) : Nat) : Int) from by rw [wrapI64 (by omega) (by omega), lensTo_succ hlt, hsl]; omega]
        exact hX _ _ ⟨i + 1, by omega, rfl, rfl, fun _ => by simpa using h200⟩ (by simp; omega)
      · rw [if_neg (by simp; omega)]
        exact hJ _ _ ⟨rfl, fun h => absurd h (by omega)⟩
    · rw [if_neg (by simp [hm]; omega)]
      have hi' : i = rows.length := by omega
      subst hi'
      exact hJ _ _ ⟨rfl, fun h => by omega⟩
  · rintro s _ ⟨rfl, hle⟩
    by_cases hgt : s > 200
    · rw [if_pos (by simpa using hgt)]
      exact fin q1 m
    · rw [if_neg (by simpa using hgt)]
      have htot := hle (by omega)
      refine forkNew_spec q1 2 3 (by decide) va l ax (by omega) fun pb q2 m2 xb => ⟨_, rfl, ?_⟩
      replace m := m.step m2 (by simp)
      refine row_spec 4 xb (by omega) fun s3 q3 m3 o3 => ⟨_, rfl, ?_⟩
      replace m := m.step m3 (by simp)
      replace xb := xb.mv m3 (by simp) (by simp)
      dsimp only
      refine SameEntries_spec s3 va l l (o3.slc rfl (by omega)) (ha.arg m (by simp)) ⟨_, rfl, ?_⟩
      dsimp only
      rw [if_neg (by simp)]
      refine loopW_rule (fun st h' => ∃ (i : Nat) (s : Sl) (es : List EntryT) (q : GH), i ≤ rows.length ∧ st = (s, (i : Int)) ∧ h' = q.h ∧ Mv [2, 7] g.base q ∧ BookC q 2 3 pb es ∧ OwnF T.api_Entry ShEntry q 4 s es ∧ es.length ≤ 200) (fun st => rows.length - st.2.toNat)
        ⟨0, s3, l, q3, by omega, rfl, rfl, m, xb, o3, by omega⟩ ?_
      clear m m1 m2 m3 xb o3
      rintro X _ _ ⟨i, sl, es, q, hi, rfl, rfl, m, xb, ol, hes⟩ hX
      dsimp only
      by_cases hlt : i < rows.length
      · rw [if_pos (by simp [hm]; omega)]
        have hrl : rows[i].length ≤ 200 := by
          have h1 := lensTo_mono (rows := rows) (i := i + 1) (j := rows.length) (by omega)
          rw [lensTo_succ hlt] at h1
          omega
        have hsee : (seeT es rows[i]).length ≤ 200 := by unfold seeT; split <;> omega
        refine idxRow (hb.arg m (by simp) : SlC q 0 RowsE vb rows) hlt fun s5 hs5 => ?_
        refine see_spec (by decide) (by decide) xb s5 rows[i] hs5 (by omega) (by omega) fun q6 m6 xb => ⟨((compareT rows[i] es).1, ((compareT rows[i] es).2 : Int)), rfl, ?_⟩
        replace m := m.step m6 (by simp)
        replace ol := ol.mv m6 (by simp)
        refine row_spec 4 xb (by omega) fun s7 q7 m7 o7 => ⟨_, rfl, ?_⟩
        replace m := m.step m7 (by simp)
        replace ol := ol.mv m7 (by simp)
        replace xb := xb.mv m7 (by simp) (by simp)
        dsimp only
        refine idxRow (hb.arg m (by simp) : SlC q7 0 RowsE vb rows) hlt fun s8 hs8 => ?_
        refine see_spec (by decide) (by decide) xb s8 rows[i] hs8 (by omega) (by omega) fun q9 m9 xb => ⟨((compareT rows[i] (seeT es rows[i])).1, ((compareT rows[i] (seeT es rows[i])).2 : Int)), rfl, ?_⟩
        replace m := m.step m9 (by simp)
        replace ol := ol.mv m9 (by simp)
        replace o7 := o7.mv m9 (by simp)
        dsimp only
        have h7 := o7.len
        have hol := ol.len
        -- what a book does
        have again : ¬ (compareT rows[i] (seeT es rows[i])).1 = 3 ∧ seeT (seeT es rows[i]) rows[i] = seeT es rows[i] := by
          have h1 : ¬ (compareT rows[i] (seeT es rows[i])).1 = 3 := by
            unfold seeT
            by_cases h3 : (compareT rows[i] es).1 = 3
            · rw [if_pos h3, compareT_self]; simp
            · rw [if_neg h3]; exact h3
          exact ⟨h1, by
            generalize seeT es rows[i] = e' at h1
            unfold seeT
            rw [if_neg h1]⟩
        rw [again.2] at xb
        have hpre : es.length ≤ (seeT es rows[i]).length ∧ (seeT es rows[i]).take es.length = es := by
          unfold seeT
          by_cases h3 : (compareT rows[i] es).1 = 3
          · rw [if_pos h3]
            have := compare3.1 h3
            exact ⟨by omega, this.2⟩
          · rw [if_neg h3]; simp
        rw [if_neg (by simp [h7, hol]; omega)]
        have hc7 := o7.cap
        refine slice_to (n := sl.n) o7.plain rfl (by omega) ?_
        have t7 := o7.take rfl (n := sl.n) (k := s7.c) (by omega) (by omega) (Nat.le_refl _)
        have e7 : (seeT es rows[i]).take sl.n = es := by rw [hol]; exact hpre.2
        rw [e7] at t7
        refine SameEntries_spec ⟨s7.a, sl.n, s7.c⟩ sl es es (t7.slc rfl (by omega)) (ol.slc rfl (by omega)) ⟨_, rfl, ?_⟩
        dsimp only
        rw [if_neg (by simp)]
        have hlast : ∀ q' : GH, q'.h = q9.h → X (s7, IntKind.i64.wrap ((i : Int) + 1)) q'.h := fun q' e => by
          rw [wrapSucc (by omega), e]
          exact hX _ _ ⟨i + 1, s7, seeT es rows[i], q9, by omega, rfl, rfl, m, xb, o7, hsee⟩ (by simp; omega)
        by_cases h3 : (compareT rows[i] es).1 = 3
        · have h3' := compare3.1 h3
          have hs : seeT es rows[i] = rows[i] := by unfold seeT; rw [if_pos h3]
          rw [hs] at h7
          have hd : decide ((s7.n : Int) > (sl.n : Int)) = true := decide_eq_true (by rw [h7, hol]; omega)
          rw [hd, h3, if_neg (by decide), if_pos (by decide)]
          refine idxRow (hb.arg m (by simp) : SlC q9 0 RowsE vb rows) hlt fun s10 hs10 => ?_
          refine SameEntries_spec s7 s10 (seeT es rows[i]) rows[i] (o7.slc rfl (by omega)) hs10 ⟨_, rfl, ?_⟩
          dsimp only
          rw [if_neg (by simp [hs]), if_neg (by simpa using again.1)]
          exact hlast q9 rfl
        · have hs : seeT es rows[i] = es := by unfold seeT; rw [if_neg h3]
          rw [hs] at h7
          have hd : decide ((s7.n : Int) > (sl.n : Int)) = false := decide_eq_false (by rw [h7, hol]; omega)
          have he : ((compareT rows[i] es).1 == 3) = false := by simpa using h3
          rw [hd, he, if_neg (by decide), if_neg (by decide), if_neg (by simpa using again.1)]
          exact hlast q9 rfl
      · rw [if_neg (by simp [hm]; omega)]
        exact fin q m

theorem ForkBook_walk {h : Heap} (a : Option Addr) (la ca : Nat) (x : List EntryT) (w : Lay h (.sl ShEntry) x [.slice a la ca]) (b : Option Addr) (lb cb : Nat) (y : List (List EntryT)) (w' : Lay h (.sl (.sl ShEntry)) y [.slice b lb cb]) :
    HC Try.prog F.law21_ForkBook #[.slice a la ca, .slice b lb cb] (fun v h' => v = .bool true ∧ Ext h h') h :=
  ForkBook_spec ⟨h, fun _ => 0⟩ ⟨a, la, ca⟩ ⟨b, lb, cb⟩ x y (c := 0) (d := 0) (w.arg (Mv.refl [] _) (by simp)) (w'.arg (Mv.refl [] _) (by simp)) fun g' m => ⟨rfl, m.ext (by simp)⟩

end Go.Proofs.Ytgggpnjjkcfckaa
