/-
  The statement JournalTorn.
-/
import Derived.Test.YtgongoaiflphaaaKLaw26
set_option linter.unusedSimpArgs false
set_option linter.unusedVariables false
namespace Go.Proofs.Ytgongoaiflphaaa
open Go Go.Ev

theorem cntJ_step {l : List (List Int)} {i p s : Nat} (hi : i < l.length) (hs : s + 36 + l[i].length ≤ p) : cntJ (p - s) (l.drop i) = cntJ (p - (s + 36 + l[i].length)) (l.drop (i + 1)) + 1 := by
  rw [List.drop_eq_getElem_cons hi, cntJ, if_pos (by omega), show p - s - (36 + l[i].length) = p - (s + 36 + l[i].length) from by omega]
theorem cntJ_stop {l : List (List Int)} {i p s : Nat} (hi : i < l.length) (hs : ¬ s + 36 + l[i].length ≤ p) (hsp : s ≤ p) : cntJ (p - s) (l.drop i) = 0 := by
  rw [List.drop_eq_getElem_cons hi, cntJ, if_neg (by omega)]

set_option maxHeartbeats 2000000 in
theorem JournalTorn_spec (g : GH) (s : Sl) (rows : List (List Int)) (hr : SlC g 0 (.sl (.int .u8)) s rows) (at_ : Int) (hat : -9223372036854775808 ≤ at_ ∧ at_ ≤ 9223372036854775807) {R : Value → Heap → Prop} (H : ∀ g' : GH, Mv [] g g' → R (.bool true) g'.h) :
    HC Try.prog F.law26_JournalTorn #[.slice s.a s.n s.c, .int .i64 at_] R g.h := by
  refine law26_JournalTorn.calls (rows0 := s) ?_
  unfold law26_JournalTorn.body
  have ok3 : okK [3, 4, 5, 6, 7] := by decide
  have m := Mv.refl (1 :: 2 :: 3 :: 4 :: 5 :: 6 :: 7 :: 8 :: SJ) g.base
  have fin : ∀ q : GH, Mv (1 :: 2 :: 3 :: 4 :: 5 :: 6 :: 7 :: 8 :: SJ) g.base q → R (.bool true) q.h := fun q m => H (g.via q fun _ => 0) (m.via (by simp) _)
  have hr0 : ∀ q : GH, Mv (1 :: 2 :: 3 :: 4 :: 5 :: 6 :: 7 :: 8 :: SJ) g.base q → SlC q 0 (.sl (.int .u8)) s rows := fun q m => hr.arg m (by simp)
  have hn := hr.len
  have hby : ∀ b ∈ rows, ∀ z ∈ b, isByte z := fun b hb z hz => hr.rows.2.1 b hb z hz
  refine awake26_spec g.base fun q1 m1 => ⟨_, rfl, ?_⟩
  replace m := m.step m1 (by simp)
  try dsimp only
  rw [if_neg (by simp)]
  refine ⟨_, build_Deed26 s, ?_⟩
  refine buildSl_C (e := T.zugzwanglaw26_Deed) (sz := 3) q1 0 _ (buildSl_Deed26 s) rfl fun s2 q2 m2 o2 hsn hsc => ?_
  replace m := m.step m2 (by simp)
  have ls : SlC q2 0 ShDeed s2 [(0, 0, rows, ())] := SlC.one (by omega) hsn o2.rd (LayC.mkDeed (hr0 q2 m) 0 0 (by omega) (by omega))
  refine size26_spec s2 _ ls fun n hn1 hn2 _ => ⟨_, rfl, ?_⟩
  try dsimp only
  by_cases hbig : (n : Int) > 1500
  · rw [if_pos (by simpa using hbig)]
    exact fin q2 m
  rw [if_neg (by simpa using hbig)]
  have hsz : 1 + (rows.length + total rows) ≤ 1500 := by
    have := hn2 (by omega)
    unfold deedsSize deedSize at this
    simpa using this
  have hsmall : ∀ b ∈ rows, b.length ≤ 4096 := by
    intro b hb
    have : b.length ≤ total rows := total_mem hb
    omega
  refine makNew_spec q2 1 2 false ⟨none, 0, 0⟩ [] (RdC.nil _ _ 0 _ _) (by simp) (by simp) fun pm q3 m3 x => ⟨_, rfl, ?_⟩
  replace m := m.step m3 (by simp)
  refine NewDisk_spec q3 3 4 (by decide) ⟨none, 0, 0⟩ [] (RowsC.nil q3 0 _ _) (by decide) (by decide) (fun pd q4 _ m4 dk => ⟨(_, _), rfl, ?_⟩) (fun _ h => absurd (by decide) h)
  replace m := m.step m4 (by simp)
  replace x := x.mv m4 (by simp) (by simp)
  refine Reopen_spec (rs := []) (p := 0) ok3 x dk trivial (by simp) (by simp) fun pj q5 m5 x dk j => ⟨(_, _), rfl, ?_⟩
  rw [List.take_nil] at dk j
  replace m := m.step m5 (by simp)
  try dsimp only
  refine jPut_spec ok3 (by decide) x dk j s rows (hr0 q5 m).rows.1 hby (by omega) (by simp) (fun _ hfit q6 m6 x dk j => ⟨_, rfl, ?_⟩) (fun h => absurd hsmall h) (fun _ h => absurd (by rw [framesT_total, framesT_flat, List.length_nil, show total ([] : List (List Int)) = 0 from rfl]; omega) h)
  replace m := m.step m6 (by simp)
  have pp := put_plain (real := false) (A := []) (rs := []) (rows := rows) trivial
  rw [← pp.2, List.nil_append] at dk
  rw [List.nil_append] at j
  have hK := pp.1
  rw [List.nil_append] at hK
  clear pp
  generalize (framesT false [] ([] : List (List Int)).length rows).2 = A at x dk hK
  try dsimp only
  rw [if_neg (by simp)]
  refine Len_spec dk ⟨_, rfl, ?_⟩
  have hfl := framesT_flat false A 0 rows
  rw [hfl]
  try dsimp only
  have htot : total rows ≤ 1500 := by omega
  generalize hL : 36 * rows.length + total rows = L at hfl
  have hLb : L ≤ 60000 := by omega
  rw [wrapSucc (by omega)]
  refine Pick_spec at_ _ hat (by omega) ⟨_, rfl, ?_⟩
  have e1 := Int.emod_nonneg at_ (b := ((L + 1 : Nat) : Int)) (by omega)
  have e2 := Int.emod_lt_of_pos at_ (b := ((L + 1 : Nat) : Int)) (by omega)
  generalize at_ % ((L + 1 : Nat) : Int) = p at e1 e2 ⊢
  obtain ⟨p, rfl⟩ := Int.eq_ofNat_of_zero_le e1
  try dsimp only
  refine joinW_intro (fun st h' => st = (((cntJ p rows : Nat) : Int), ((36 * cntJ p rows + total (rows.take (cntJ p rows)) : Nat) : Int)) ∧ h' = q6.h) ?_ ?_
  · intro J hJ
    refine loopW_rule (fun st h' => ∃ i : Nat, i ≤ rows.length ∧ st = ((i : Int), ((36 * i + total (rows.take i) : Nat) : Int)) ∧ h' = q6.h ∧ 36 * i + total (rows.take i) ≤ p ∧ cntJ p rows = cntJ (p - (36 * i + total (rows.take i))) (rows.drop i) + i) (fun st => rows.length - st.1.toNat)
      ⟨0, by omega, by simp [total], rfl, by simp [total], by simp [total]⟩ ?_
    rintro X _ _ ⟨i, hi, rfl, rfl, hle, hc⟩ hX
    have htl := total_le (xss := rows) i
    try dsimp only
    by_cases hlt : i < rows.length
    · rw [if_pos (by simp; omega)]
      have h2 := total_take hlt
      have h3 := total_le (xss := rows) (i + 1)
      refine ((hr0 q6 m).rows.1).idx (by kernel_rfl) hlt fun sl rsl hsl => ?_
      have hl := rsl.len
      rw [List.length_map] at hl
      have ew : IntKind.i64.wrap (IntKind.i64.wrap (((36 * i + total (rows.take i) : Nat) : Int) + 36) + (sl.n : Int)) = ((36 * i + total (rows.take i) + 36 + rows[i].length : Nat) : Int) := by
        rw [wrapI64 (n := ((36 * i + total (rows.take i) : Nat) : Int) + 36) (by omega) (by omega), wrapI64 (by omega) (by omega)]; omega
      rw [ew]
      by_cases hfit2 : 36 * i + total (rows.take i) + 36 + rows[i].length ≤ p
      · rw [if_pos (by simp; omega)]
        refine ((hr0 q6 m).rows.1).idx (by kernel_rfl) hlt fun sl2 rsl2 hsl2 => ?_
        have hl2 := rsl2.len
        rw [List.length_map] at hl2
        rw [show (sl2.n : Int) = (sl.n : Int) from by omega, ew, wrapSucc (by omega)]
        have hst := cntJ_step hlt hfit2
        refine hX _ _ ⟨i + 1, by omega, ?_, rfl, by omega, ?_⟩ (by simp; omega)
        · rw [show 36 * (i + 1) + total (rows.take (i + 1)) = 36 * i + total (rows.take i) + 36 + rows[i].length from by omega]
        · rw [show 36 * (i + 1) + total (rows.take (i + 1)) = 36 * i + total (rows.take i) + 36 + rows[i].length from by omega, hc, hst]; omega
      · rw [if_neg (by simp; omega)]
        have hst := cntJ_stop hlt hfit2 hle
        rw [hst] at hc
        exact hJ _ _ ⟨by rw [hc, Nat.zero_add], rfl⟩
    · rw [if_neg (by simp; omega)]
      rw [List.drop_eq_nil_of_le (by omega)] at hc
      have hc' : cntJ p rows = i := by rw [hc]; simp [cntJ]
      exact hJ _ _ ⟨by rw [hc'], rfl⟩
  rintro _ _ ⟨rfl, rfl⟩
  try dsimp only
  refine Cut_spec (by decide) dk p (fun hc q7 m7 dk => ⟨_, rfl, ?_⟩) (fun h => absurd (by rw [hfl]; omega) h)
  rw [Int.toNat_natCast] at dk
  replace m := m.step m7 (by simp)
  refine Reopen_spec ok3 (x.mv m7 (by simp) (by simp)) dk hK hsmall hby fun pj2 q8 m8 x dk j => ⟨(_, _), rfl, ?_⟩
  replace m := m.step m8 (by simp)
  try dsimp only
  rw [if_pos (by simp)]
  have hcl := cntJ_le rows p
  generalize cntJ p rows = c at dk j hcl ⊢
  refine Len_spec dk ⟨_, rfl, ?_⟩
  have hf2 := framesT_flat false A 0 (rows.take c)
  rw [List.length_take, Nat.min_eq_left hcl] at hf2
  rw [hf2]
  try dsimp only
  rw [if_pos (by simp)]
  have recs : ∀ (s' : Sl), RowsC q8 0 s' (rows.take c) → callK Try.prog .slice F.journal_Journal_Records #[ptrV pj2] (fun v h => callK Try.prog .bool F.kit_SameByteRows #[.slice v.a v.n v.c, .slice s'.a s'.n s'.c] (fun v h => R (.bool v) h) h) q8.h := by
    intro s' rs'
    have hb9 : ∀ x ∈ rows.take c, x.length ≤ 1000000000 := fun x hx => by have := hsmall x (List.mem_of_mem_take hx); omega
    refine jRecords_spec j (by rw [List.length_take]; omega) hb9 8 fun s9 q9 m9 r9 _ => ⟨_, rfl, ?_⟩
    refine SameByteRows_spec s9 s' _ _ r9 (rs'.mv m9 (by simp)) (by rw [List.length_take]; omega) (by rw [List.length_take]; omega) hb9 hb9 ⟨_, rfl, ?_⟩
    rw [decide_eq_true rfl]
    exact fin q9 (m.step m9 (by simp))
  have hcap := (hr0 q8 m).cap
  by_cases hne : rows = []
  · subst hne
    have hc0 : c = 0 := by simpa using hcl
    subst hc0
    exact slice_upto (n := 0) rfl (by omega) (recs _ (RowsC.nil _ _ _ _))
  · have r0 := (hr0 q8 m).rows.1
    exact slice_to (r0.plain hne) rfl (by omega) (recs _ (r0.take hcl))

theorem JournalTorn_walk {h : Heap} (a : Option Addr) (la ca : Nat) (x : List (List Int)) (w : Lay h (.sl (.sl (.int .u8))) x [.slice a la ca]) (n : Int) (hn : (Lit.int IntKind.i64 n).wf = true) :
    HC Try.prog F.law26_JournalTorn #[.slice a la ca, .int .i64 n] (fun v h' => v = .bool true ∧ Ext h h') h :=
  JournalTorn_spec ⟨h, fun _ => 0⟩ ⟨a, la, ca⟩ x (w.arg (Mv.refl [] _) (by simp)) n (by simp only [Lit.wf, Bool.and_eq_true, decide_eq_true_eq] at hn; exact hn) fun g' m => ⟨rfl, m.ext (by simp)⟩

end Go.Proofs.Ytgongoaiflphaaa
