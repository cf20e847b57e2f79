/-
  Books of rows: the program's, the document's.
-/
import Derived.Test.YtgggpnjjkcfckaaKLaw21
set_option linter.unusedSimpArgs false
set_option linter.unusedVariables false
namespace Go.Proofs.Ytgggpnjjkcfckaa
open Go Go.Ev

theorem compare3 {r es : List EntryT} : (compareT r es).1 = 3 ↔ es.length < r.length ∧ r.take es.length = es := by
  have hle := partAt_le r es
  constructor
  · intro h
    unfold compareT at h
    split at h
    · simp at h
    · rename_i h1
      split at h
      · simp at h
      · split at h
        · rename_i h2 h3
          have hp : partAt r es = es.length := by omega
          have := partAt_take r es
          rw [hp, List.take_length] at this
          exact ⟨h3, this⟩
        · simp at h
  · rintro ⟨h1, h2⟩
    have hp : partAt r es = es.length := partAt_eq (by rw [h2, List.take_length]) (by omega) fun h => absurd h (by omega)
    unfold compareT
    rw [hp, if_neg (by omega), if_neg (by omega), if_pos h1]

/-- The row behind what is seen. -/
def seeT (es r : List EntryT) : List EntryT := if (compareT r es).1 = 3 then r else es

theorem szBook : sizeOfT Try.prog T.fork_Book = 2 := by kernel_rfl

/-- The program's book. -/
def BookC (g : GH) (kb ke p : Nat) (es : List EntryT) : Prop := ∃ s : Sl, BlkC g kb p #[slV s, .bool true] T.fork_Book ∧ OwnF T.api_Entry ShEntry g ke s es
theorem BookC.mv {K : List Nat} {g g' : GH} {kb ke p : Nat} {es : List EntryT} (x : BookC g kb ke p es) (m : Mv K g g') (h1 : kb ∉ K) (h2 : ke ∉ K) : BookC g' kb ke p es := by
  obtain ⟨s, b, o⟩ := x
  exact ⟨s, b.mv m h1, o.mv m h2⟩

theorem keep_spec {g : GH} {kb d p : Nat} {s : Sl} (ke : Nat) (hk : ¬ ke = kb) (b : BlkC g kb p #[slV s, .bool true] T.fork_Book) (v : Sl) (xs : List EntryT) (hv : SlC g d ShEntry v xs) (hl : xs.length ≤ 900000000) {R : Value → Heap → Prop}
    (H : ∀ g' : GH, Mv [kb] g g' → BookC g' kb ke p xs → R (.tuple #[]) g'.h) : HC Try.prog F.fork_shelf_keep #[.pointer (some ⟨p, 0, none⟩), .slice v.a v.n v.c] R g.h := by
  refine fork_shelf_keep.calls (l1 := v) ?_
  unfold fork_shelf_keep.body
  refine cloneEntries_spec g ke v xs hv hl fun s1 q1 m1 o1 => ⟨_, rfl, ?_⟩
  dsimp only
  rw [derefK_some, fldK_some]
  refine store_C (b.mv m1 (by simp)) (by simp) rfl fun q2 m2 b2 => ?_
  exact H q2 (m1.then m2 (by simp)) ⟨s1, b2, o1.mv m2 (by simpa using hk)⟩

theorem forkNew_spec (g : GH) (kb ke : Nat) (hk : ¬ ke = kb) {d : Nat} (v : Sl) (xs : List EntryT) (hv : SlC g d ShEntry v xs) (hl : xs.length ≤ 900000000) {R : Value → Heap → Prop}
    (H : ∀ (p : Nat) (g' : GH), Mv [kb] g g' → BookC g' kb ke p xs → R (.pointer (some ⟨p, 0, none⟩)) g'.h) : HC Try.prog F.fork_New #[.slice v.a v.n v.c] R g.h := by
  refine fork_New.calls (l0 := v) ?_
  unfold fork_New.body
  refine ⟨#[slV ⟨none, 0, 0⟩, .bool true], fun w => by kernel_rfl, ?_⟩
  refine new_C g kb fun p q1 m1 b1 => ?_
  rw [derefK_some, fldK_some]
  exact keep_spec ke hk b1 v xs (hv.mv m1 (by simp)) hl fun q2 m2 x2 => ⟨(), rfl, H p q2 (m1.then m2 (by simp)) x2⟩

theorem see_spec {g : GH} {kb ke d p : Nat} {es : List EntryT} (hk : ¬ ke = kb) (hd : ¬ d = kb) (x : BookC g kb ke p es) (v : Sl) (xs : List EntryT) (hv : SlC g d ShEntry v xs) (hl : xs.length ≤ 900000000) (hle : es.length ≤ 900000000) {R : Value → Heap → Prop}
    (H : ∀ g' : GH, Mv [kb] g g' → BookC g' kb ke p (seeT es xs) → R (.tuple #[.int .i64 (compareT xs es).1, .int .i64 (compareT xs es).2]) g'.h) : HC Try.prog F.fork_Book_See #[.pointer (some ⟨p, 0, none⟩), .slice v.a v.n v.c] R g.h := by
  refine fork_Book_See.calls (l1 := v) ?_
  unfold fork_Book_See.body
  obtain ⟨s, b, o⟩ := x
  rw [if_neg (by simp)]
  simp only [derefK_some, fldK_some]
  rw [loadK_C b]
  refine ⟨true, rfl, ?_⟩
  rw [if_neg (by simp), loadK_C b]
  refine ⟨s, rfl, ?_⟩
  refine compare_spec hv (o.slc rfl (by omega)) fun q1 m1 => ⟨((compareT xs es).1, ((compareT xs es).2 : Int)), rfl, ?_⟩
  dsimp only
  by_cases h3 : (compareT xs es).1 = 3
  · rw [if_pos (by simp [h3])]
    exact keep_spec ke hk (b.mv m1 (by simp)) v xs (hv.mv m1 (by simp)) hl fun q2 m2 x2 => ⟨(), rfl, H q2 (m1.then m2 (by simp)) (by unfold seeT; rw [if_pos h3]; exact x2)⟩
  · rw [if_neg (by simp [h3])]
    exact H q1 (m1.mono (by simp)) (by unfold seeT; rw [if_neg h3]; exact ⟨s, b.mv m1 (by simp), o.mv m1 (by simp)⟩)

theorem row_spec {g : GH} {kb ke p : Nat} {es : List EntryT} (c : Nat) (x : BookC g kb ke p es) (hle : es.length ≤ 900000000) {R : Value → Heap → Prop}
    (H : ∀ (s : Sl) (g' : GH), Mv [] g g' → OwnF T.api_Entry ShEntry g' c s es → R (.slice s.a s.n s.c) g'.h) : HC Try.prog F.fork_Book_Row #[.pointer (some ⟨p, 0, none⟩)] R g.h := by
  refine fork_Book_Row.calls ?_
  unfold fork_Book_Row.body
  obtain ⟨s, b, o⟩ := x
  rw [if_neg (by simp)]
  simp only [derefK_some, fldK_some]
  rw [loadK_C b]
  refine ⟨true, rfl, ?_⟩
  rw [if_neg (by simp), loadK_C b]
  refine ⟨s, rfl, ?_⟩
  exact cloneEntries_spec g c s es (o.slc rfl (by omega)) hle fun s1 q1 m1 o1 => ⟨s1, rfl, H s1 q1 m1 o1⟩

/-- The document's book: its row is the one that it was given, or one of its own. -/
def Book21 (g : GH) (kb kl p : Nat) (es : List EntryT) : Prop := ∃ s : Sl, BlkC g kb p #[slV s] T.zugzwangref21_Book ∧ (SlC g 0 ShEntry s es ∨ SlC g kl ShEntry s es)
theorem Book21.mv {K : List Nat} {g g' : GH} {kb kl p : Nat} {es : List EntryT} (x : Book21 g kb kl p es) (m : Mv K g g') (h1 : kb ∉ K) (h2 : 0 ∉ K) (h3 : kl ∉ K) : Book21 g' kb kl p es := by
  obtain ⟨s, b, o⟩ := x
  exact ⟨s, b.mv m h1, o.imp (fun o => o.mv m h2) fun o => o.mv m h3⟩
theorem see21_spec {g : GH} {kb kl d p : Nat} {es : List EntryT} (hk : ¬ 0 = kb) (hk2 : ¬ kl = kb) (hd : ¬ d = kb) (x : Book21 g kb kl p es) (v : Sl) (xs : List EntryT) (hv : SlC g d ShEntry v xs) (hl : xs.length ≤ 900000000) {R : Value → Heap → Prop}
    (H : ∀ g' : GH, Mv [kb] g g' → Book21 g' kb kl p (seeT es xs) → R (.tuple #[.int .i64 (compareT xs es).1, .int .i64 (compareT xs es).2]) g'.h) : HC Try.prog F.ref21_Book_See #[.pointer (some ⟨p, 0, none⟩), .slice v.a v.n v.c] R g.h := by
  refine ref21_Book_See.calls (l1 := v) ?_
  unfold ref21_Book_See.body
  obtain ⟨s, b, o⟩ := x
  obtain ⟨e, he⟩ : ∃ e, SlC g e ShEntry s es := by rcases o with o | o <;> exact ⟨_, o⟩
  simp only [derefK_some, fldK_some]
  rw [loadK_C b]
  refine ⟨s, rfl, ?_⟩
  refine ref21Compare_spec hv he ⟨((compareT xs es).1, ((compareT xs es).2 : Int)), rfl, ?_⟩
  dsimp only
  by_cases h3 : (compareT xs es).1 = 3
  · rw [if_pos (by simp [h3])]
    obtain ⟨y, hy, hyn⟩ := fresh_exists g [kb, d, kl]
    simp only [List.mem_cons, List.mem_nil_iff, or_false, not_or] at hyn
    have m : Mv [kb, y] g g := Mv.refl _ _
    have hlv := hv.len
    refine buildSl_C (e := T.api_Entry) (sz := 135) g y _ noEntries rfl fun s1 q1 m1 o1 hn1 _ => ?_
    replace m := m.step m1 (by simp)
    have o1' : OwnF T.api_Entry ShEntry q1 y s1 [] := ⟨o1, by simp, hn1⟩
    refine appendEntries_C o1' (hv.mv m1 (by simp)) (by omega) fun s2 q2 m2 o2 => ?_
    replace m := m.step m2 (by simp)
    rw [List.nil_append] at o2
    refine store_C ((b.mv m1 (by simp)).mv m2 (by simp [Ne.symm hyn.1])) (by simp) rfl fun q3 m3 b3 => ?_
    replace m := m.step m3 (by simp)
    have hre : ∀ j ∈ [kb, y], j ∈ [kb] ∨ Fresh g j := by
      intro j hj
      simp only [List.mem_cons, List.mem_nil_iff, or_false] at hj
      rcases hj with rfl | rfl
      · exact .inl (by simp)
      · exact .inr hy
    refine H (g.via q3 (reOne y kl)) (m.re _ hre) ⟨s2, ?_, .inr ?_⟩
    · have := b3.re (φ := reOne y kl) m (.inl (reOne_ne (Ne.symm hyn.1)))
      rw [reOne_ne (Ne.symm hyn.1)] at this
      exact this
    · have := (o2.mv m3 (by simp [hyn.1])).re (φ := reOne y kl) m (.inr hy)
      rw [reOne_self] at this
      unfold seeT
      rw [if_pos h3]
      exact this.slc rfl (by omega)
  · rw [if_neg (by simp [h3])]
    exact H g (Mv.refl _ _) ⟨s, b, by unfold seeT; rw [if_neg h3]; exact o⟩

end Go.Proofs.Ytgggpnjjkcfckaa
