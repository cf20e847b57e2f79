/-
  The statements of layer 26, their parts: reading what was put, sizes, the example.
-/
import Derived.Test.YtgongoaiflphaaaGreatKJournal
import Derived.Test.YtgongoaiflphaaaGreatKLaw25
import Derived.Test.YtgongoaiflphaaaGreatKFields
set_option linter.unusedSimpArgs false
set_option linter.unusedVariables false
namespace Go.Proofs.YtgongoaiflphaaaGreat
open Go Go.Ev

/-! ### What was asked is told again -/
theorem frameT_since {real : Bool} {A B : List ShThing.T} {i : Nat} {b : List Int} (h : Since (frameT real A i b).2 B) : frameT real B i b = ((frameT real A i b).1, B) := by
  unfold frameT sumJ at h ⊢
  cases real with
  | true => rfl
  | false =>
    simp only [Bool.false_eq_true, if_false] at h ⊢
    have h1 := h.idx (askT_idx A (thS (seenB i b)))
    rw [askT_there h1]
theorem frameT_grows (real : Bool) (A : List ShThing.T) (i : Nat) (b : List Int) : Since A (frameT real A i b).2 := by
  unfold frameT sumJ
  cases real with
  | true => exact Since.refl _
  | false => exact askT_since _ _
theorem framesT_grows (real : Bool) : ∀ (l : List (List Int)) (A : List ShThing.T) (i : Nat), Since A (framesT real A i l).2
  | [], A, i => Since.refl _
  | b :: l, A, i => (frameT_grows real A i b).trans (framesT_grows real l _ _)
/-- A maker that was asked for these frames. -/
def KnownJ (real : Bool) (B : List ShThing.T) : Nat → List (List Int) → Prop
  | _, [] => True
  | i, b :: l => (frameT real B i b).2 = B ∧ KnownJ real B (i + 1) l
theorem framesT_since {real : Bool} {B : List ShThing.T} : ∀ (l : List (List Int)) (A : List ShThing.T) (i : Nat), Since (framesT real A i l).2 B → KnownJ real B i l ∧ framesT real B i l = ((framesT real A i l).1, B)
  | [], A, i, h => ⟨trivial, rfl⟩
  | b :: l, A, i, h => by
    have h1 := frameT_since (Since.trans (framesT_grows real l _ (i + 1)) h)
    obtain ⟨h2, h3⟩ := framesT_since l _ _ h
    refine ⟨⟨by rw [h1], h2⟩, ?_⟩
    simp only [framesT]
    rw [h1]
    dsimp only
    rw [h3]
theorem KnownJ.frames {real : Bool} {B : List ShThing.T} : ∀ {l : List (List Int)} {i : Nat}, KnownJ real B i l → (framesT real B i l).2 = B
  | [], i, h => rfl
  | b :: l, i, h => by
    simp only [framesT]
    rw [h.1]
    exact h.2.frames
theorem KnownJ.since {real : Bool} {B C : List ShThing.T} {l : List (List Int)} {i : Nat} (h : KnownJ real B i l) (s : Since B C) : KnownJ real C i l ∧ framesT real C i l = ((framesT real B i l).1, C) :=
  framesT_since l B i (by rw [h.frames]; exact s)
theorem KnownJ.take {real : Bool} {B : List ShThing.T} : ∀ {l : List (List Int)} {i : Nat} (n : Nat), KnownJ real B i l → KnownJ real B i (l.take n)
  | [], i, n, h => by simp [KnownJ]
  | b :: l, i, 0, h => trivial
  | b :: l, i, n + 1, h => ⟨h.1, h.2.take n⟩
theorem KnownJ.append {real : Bool} {B : List ShThing.T} : ∀ {l m : List (List Int)} {i : Nat}, KnownJ real B i l → KnownJ real B (i + l.length) m → KnownJ real B i (l ++ m)
  | [], m, i, h, k => k
  | b :: l, m, i, h, k => ⟨h.1, h.2.append (by rw [List.length_cons] at k; rw [show i + 1 + l.length = i + (l.length + 1) from by omega]; exact k)⟩
theorem framesT_append (real : Bool) : ∀ (l m : List (List Int)) (A : List ShThing.T) (i : Nat), framesT real A i (l ++ m) = ((framesT real A i l).1 ++ (framesT real (framesT real A i l).2 (i + l.length) m).1, (framesT real (framesT real A i l).2 (i + l.length) m).2)
  | [], m, A, i => rfl
  | b :: l, m, A, i => by
    simp only [List.cons_append, framesT, framesT_append real l m, List.length_cons]
    rw [show i + 1 + l.length = i + (l.length + 1) from by omega]

/-! ### Reading -/
theorem runR_whole {b rest : List Int} (hb : b.length ≤ 4096) : runR ((fourB (b.length : Nat) ++ b ++ rest).take 4100) (false, 0) = (b, (false, 4 + b.length)) := by
  have h4 : (fourB (b.length : Nat)).length = 4 := rfl
  have hl : ((fourB (b.length : Nat) ++ b ++ rest).take 4100).length = min 4100 (4 + b.length + rest.length) := by rw [List.length_take, List.length_append, List.length_append, h4]
  have e1 : nextR ((fourB (b.length : Nat) ++ b ++ rest).take 4100) (false, 0) 4 = (fourB (b.length : Nat), (false, 4)) := by
    unfold nextR
    rw [if_neg (by simp), if_pos (by rw [hl]; show 4 ≤ _ - 0; omega), List.drop_zero, List.take_take, show min 4 4100 = 4 from rfl, List.append_assoc, ← h4, List.take_left]
    simp
  have e2 : nextR ((fourB (b.length : Nat) ++ b ++ rest).take 4100) (false, 4) b.length = (b, (false, 4 + b.length)) := by
    unfold nextR
    rw [if_neg (by simp), if_pos (by rw [hl]; show b.length ≤ _ - 4; omega)]
    congr 1
    rw [List.drop_take, List.take_take, List.append_assoc, ← h4, List.drop_left, h4, Nat.min_eq_left (by omega), List.take_left]
  unfold runR numR
  rw [e1]
  dsimp only
  rw [numOf_fourB (by omega) (by omega), Int.toNat_natCast, e2]
  rfl
theorem runR_torn {b f : List Int} {p : Nat} (hb : b.length ≤ 4096) (hf : f = fourB (b.length : Nat) ++ b) (hp : p < 4 + b.length) : (runR ((f.take p).take 4100) (false, 0)).2.2 = 0 := by
  subst hf
  have h4 : (fourB (b.length : Nat)).length = 4 := rfl
  rw [List.take_take, Nat.min_eq_right (by omega)]
  have hl : ((fourB (b.length : Nat) ++ b).take p).length = p := by rw [List.length_take, List.length_append, h4]; omega
  by_cases hp4 : p < 4
  · have e1 : nextR ((fourB (b.length : Nat) ++ b).take p) (false, 0) 4 = ([], (true, 0)) := by
      unfold nextR
      rw [if_neg (by simp), if_neg (by rw [hl]; show ¬ 4 ≤ p - 0; omega)]
    unfold runR numR
    rw [e1]
    dsimp only
    have e2 : ∀ n, nextR ((fourB (b.length : Nat) ++ b).take p) (true, 0) n = ([], (true, 0)) := fun n => by unfold nextR; rw [if_pos rfl]
    rw [e2, if_pos rfl]
  · have e1 : nextR ((fourB (b.length : Nat) ++ b).take p) (false, 0) 4 = (fourB (b.length : Nat), (false, 4)) := by
      unfold nextR
      rw [if_neg (by simp), if_pos (by rw [hl]; show 4 ≤ p - 0; omega), List.drop_zero, List.take_take, Nat.min_eq_left (by omega), ← h4, List.take_left]
      simp
    have e2 : nextR ((fourB (b.length : Nat) ++ b).take p) (false, 4) b.length = ([], (true, 4)) := by
      unfold nextR
      rw [if_neg (by simp), if_neg (by rw [hl]; show ¬ b.length ≤ p - 4; omega)]
    unfold runR numR
    rw [e1]
    dsimp only
    rw [numOf_fourB (by omega) (by omega), Int.toNat_natCast, e2]
    dsimp only
    rw [if_pos rfl]
/-- How many whole frames stand in p bytes. -/
def cntJ : Nat → List (List Int) → Nat
  | _, [] => 0
  | p, b :: l => if 36 + b.length ≤ p then cntJ (p - (36 + b.length)) l + 1 else 0
theorem cntJ_le : ∀ (l : List (List Int)) (p : Nat), cntJ p l ≤ l.length
  | [], p => Nat.le_refl _
  | b :: l, p => by
    have := cntJ_le l (p - (36 + b.length))
    rw [cntJ]; split
    · rw [List.length_cons]; omega
    · omega
/-- A cut frame is not read. -/
theorem readJ_torn {real : Bool} {B : List ShThing.T} {i : Nat} {b : List Int} (hb : b.length ≤ 4096) (hk : (frameT real B i b).2 = B) {p : Nat} (hp : p < 36 + b.length) (m : Nat) : readJ real m B i ((frameT real B i b).1.take p) = ([], (frameT real B i b).1.take p, B) := by
  have fl := frameT_len real B i b
  cases m with
  | zero => rfl
  | succ m =>
    have he : (frameT real B i b).1 = fourB (b.length : Nat) ++ b ++ (sumJ real B (seenB i b)).1 := rfl
    by_cases h1 : p < 4 + b.length
    · refine readJ_stop ?_
      have e : (frameT real B i b).1.take p = (fourB (b.length : Nat) ++ b).take p := by
        rw [he, List.take_append_of_le_length (by simp [fourB]; omega)]
      rw [e]
      exact runR_torn hb rfl h1
    · have e : (frameT real B i b).1.take p = fourB (b.length : Nat) ++ b ++ ((sumJ real B (seenB i b)).1.take (p - (4 + b.length))) := by
        rw [he, List.take_append, List.take_of_length_le (by simp [fourB]; omega)]
        congr 2
        simp [fourB]; omega
      have hr := runR_whole (rest := (sumJ real B (seenB i b)).1.take (p - (4 + b.length))) hb
      rw [← e] at hr
      rw [readJ, hr, if_neg (show ¬ 4 + b.length = 0 by omega), if_neg, hk]
      intro h
      dsimp only at h
      have := congrArg List.length h
      rw [List.length_take, List.length_take] at this
      omega
/-- What is read of a file of frames that was cut. -/
theorem read_cut {real : Bool} {B : List ShThing.T} : ∀ (l : List (List Int)) (i p m : Nat), KnownJ real B i l → (∀ b ∈ l, b.length ≤ 4096) → ((framesT real B i l).1.flatten.take p).length ≤ m →
    ∃ z : List Int, readJ real m B i ((framesT real B i l).1.flatten.take p) = (l.take (cntJ p l), z, B) ∧ z.length + (36 * cntJ p l + total (l.take (cntJ p l))) = ((framesT real B i l).1.flatten.take p).length ∧
      (framesT real B i l).1.flatten.take (36 * cntJ p l + total (l.take (cntJ p l))) = (framesT real B i (l.take (cntJ p l))).1.flatten ∧ 36 * cntJ p l + total (l.take (cntJ p l)) ≤ p
  | [], i, p, m, hk, hb, hm => by
    refine ⟨[], ?_, by simp [framesT, cntJ, total], by simp [framesT, cntJ, total], by simp [cntJ, total]⟩
    cases m with
    | zero => simp [framesT, readJ, cntJ]
    | succ m =>
      simp only [framesT, List.flatten_nil, List.take_nil, cntJ]
      exact readJ_stop (by decide)
  | b :: l, i, p, m, hk, hb, hm => by
    have hk1 := hk.1
    have hb1 := hb b (by simp)
    have fl := frameT_len real B i b
    simp only [framesT, List.flatten_cons, hk1, cntJ] at hm ⊢
    by_cases hp : 36 + b.length ≤ p
    · rw [if_pos hp]
      have e : ((frameT real B i b).1 ++ (framesT real B (i + 1) l).1.flatten).take p = (frameT real B i b).1 ++ (framesT real B (i + 1) l).1.flatten.take (p - (36 + b.length)) := by
        rw [List.take_append, List.take_of_length_le (by omega), fl]
      rw [e] at hm ⊢
      rw [List.length_append, fl] at hm
      obtain ⟨m, rfl⟩ : ∃ m', m = m' + 1 := ⟨m - 1, by omega⟩
      obtain ⟨z, h1, h2, h3, h4⟩ := read_cut l (i + 1) (p - (36 + b.length)) m hk.2 (fun x hx => hb x (by simp [hx])) (by omega)
      have htk : ∀ n, (b :: l).take (n + 1) = b :: l.take n := fun n => rfl
      have htt : ∀ n, total (b :: l.take n) = b.length + total (l.take n) := fun n => by simp [total]
      refine ⟨z, ?_, ?_, ?_, ?_⟩
      · have he : (frameT real B i b).1 ++ (framesT real B (i + 1) l).1.flatten.take (p - (36 + b.length)) = fourB (b.length : Nat) ++ b ++ ((sumJ real B (seenB i b)).1 ++ (framesT real B (i + 1) l).1.flatten.take (p - (36 + b.length))) := by
          show fourB (b.length : Nat) ++ b ++ (sumJ real B (seenB i b)).1 ++ _ = _
          rw [List.append_assoc]
        have hr := runR_whole (rest := (sumJ real B (seenB i b)).1 ++ (framesT real B (i + 1) l).1.flatten.take (p - (36 + b.length))) hb1
        rw [← he] at hr
        rw [readJ, hr, if_neg (show ¬ 4 + b.length = 0 by omega), if_pos (by rw [List.take_left]), List.drop_left, hk1, h1, htk]
      · rw [List.length_append, fl, htk, htt]; omega
      · rw [htk, htt, show 36 * (cntJ (p - (36 + b.length)) l + 1) + (b.length + total (l.take (cntJ (p - (36 + b.length)) l))) = (frameT real B i b).1.length + (36 * cntJ (p - (36 + b.length)) l + total (l.take (cntJ (p - (36 + b.length)) l))) from by omega, List.take_length_add_append, h3]
        simp only [framesT, List.flatten_cons, hk1]
      · rw [htk, htt]; omega
    · rw [if_neg hp]
      have e : ((frameT real B i b).1 ++ (framesT real B (i + 1) l).1.flatten).take p = (frameT real B i b).1.take p := by
        rw [List.take_append_of_le_length (by omega)]
      rw [e]
      refine ⟨_, readJ_torn hb1 hk1 (by omega) m, by simp [total], by simp [total, framesT], by simp [total]⟩

/-! ### Rows of two colours -/
theorem foldRows {g : GH} {c : Nat} {s : Sl} {rs : List (List Int)} (r : RowsC g c s rs) (ψ : Nat → Nat) : RowsC (GH.fold g ψ) (ψ c) s rs := by
  obtain ⟨sls, h1, h2, h3⟩ := r
  exact ⟨sls, foldRd h1 _ rfl, h2, fun i sl xs a b => ⟨foldRd (h3 i sl xs a b).1 _ rfl, (h3 i sl xs a b).2⟩⟩
theorem sameR2_spec' {g : GH} {kh ke c : Nat} {a b : Sl} {xs : List (List Int)} (ra : RowsC g c a xs) (rb : Row2C g kh ke b xs) (hl : xs.length ≤ 1000000000) (hx : ∀ x ∈ xs, x.length ≤ 1000000000) {R : Value → Heap → Prop} (H : R (.bool true) g.h) :
    HC Tryz.prog F.kit_SameByteRows #[.slice a.a a.n a.c, .slice b.a b.n b.c] R g.h := by
  have := SameByteRows_spec (g := GH.fold g (psiJ ke kh)) a b xs xs (R := R) (foldRows ra _) rb.fold hl hl hx hx (by rw [decide_eq_true rfl]; exact H)
  exact this

/-! ### Sizes -/
theorem sizeDeed26 : sizeOfT Tryz.prog T.zugzwanglaw26_Deed = 3 := by kernel_rfl
theorem size26_spec {g : GH} {c : Nat} (v : Sl) (l : List Deed) (hl : SlC g c ShDeed v l) {R : Value → Heap → Prop} (H : ∀ n : Nat, n ≤ 1000000000000000 → (n ≤ 1500 → deedsSize l ≤ 1500) → (deedsSize l ≤ 1500 → n ≤ 1500) → R (.int .i64 (n : Int)) g.h) :
    HC Tryz.prog F.law26_size #[.slice v.a v.n v.c] R g.h := by
  refine law26_size.calls (l0 := v) ?_
  unfold law26_size.body
  have hn := hl.len
  have hs := hl.small
  refine loopW_rule (fun st h' => ∃ i n : Nat, i ≤ l.length ∧ st = ((n : Int), (i : Int)) ∧ g.h = h' ∧ n ≤ 1000000000000000 ∧ n ≤ l.length + ((l.map deedSize).take i).sum ∧ (n ≤ 1500 → n = l.length + ((l.map deedSize).take i).sum)) (fun st => l.length - st.2.toNat)
    ⟨0, v.n, by omega, by rfl, rfl, by omega, by simp [hn], by simp [hn]⟩ ?_
  rintro X _ _ ⟨i, n, hi, rfl, rfl, hb, hle, hq⟩ hX
  dsimp only
  by_cases hlt : i < l.length
  · rw [if_pos (by first | omega | (simp [hn]; omega))]
    by_cases hm : n ≤ 1500
    · rw [if_pos (by first | omega | (simp; omega))]
      have hq' := hq hm
      have hst := sum_take (l := l.map deedSize) (i := i) (by simpa using hlt)
      rw [List.getElem_map] at hst
      refine hl.idx (sizeDeed26.trans rfl) (by decide) hlt fun b o cs rc lay => ?_
      obtain ⟨w, rfl, hw, _, _⟩ := LayC.deed lay
      obtain ⟨hrow, hby, hlen⟩ := hw.rows
      have hwn := hw.len
      have hws := hw.small
      try simp only [derefK_some, fldK_some, Nat.zero_add, Nat.add_zero, Nat.reduceAdd, inj_int, inj_bool, inj_str, inj_ptr, inj_map, inj_slice, exists_eq_left, List.getElem?_toArray, List.getElem?_cons_zero, List.getElem?_cons_succ, Option.isNone_some, Option.isNone_none, Bool.not_true, Bool.not_false, Bool.false_eq_true, if_true, if_false, reduceIte, eq_self, not_true_eq_false, not_false_eq_true, bne_self_eq_false, beq_self_eq_true, decide_true, decide_false, decide_eq_true_eq, beq_iff_eq, bne_iff_ne, ne_eq]
      refine loadK_cells rc (k := .slice) (j := 2) w rfl rfl ?_
      have hds : deedSize l[i] = l[i].2.2.1.length + total l[i].2.2.1 := rfl
      rw [wrapI64 (n := (n : Int) + (w.n : Int)) (by omega) (by omega)]
      refine loopW_rule (fun st h' => ∃ k n2 : Nat, k ≤ l[i].2.2.1.length ∧ st = ((n2 : Int), (k : Int)) ∧ g.h = h' ∧ n2 ≤ 1000000000000000 ∧ n2 ≤ n + l[i].2.2.1.length + total (l[i].2.2.1.take k) ∧ (n2 ≤ 1500 → n2 = n + l[i].2.2.1.length + total (l[i].2.2.1.take k))) (fun st => l[i].2.2.1.length - st.2.toNat)
        ⟨0, n + w.n, by omega, by simp, rfl, by omega, by simp [total]; omega, by simp [total]; omega⟩ ?_
      rintro Y _ _ ⟨k, n2, hk, rfl, rfl, hb2, hle2, hq2⟩ hY
      have htl := total_le (xss := l[i].2.2.1) k
      dsimp only
      refine hl.idx (sizeDeed26.trans rfl) (by decide) hlt fun b o cs rc lay => ?_
      obtain ⟨w, rfl, hw, _, _⟩ := LayC.deed lay
      obtain ⟨hrow, hby, hlen⟩ := hw.rows
      have hwn := hw.len
      try simp only [derefK_some, fldK_some, Nat.zero_add, Nat.add_zero, Nat.reduceAdd, inj_int, inj_bool, inj_str, inj_ptr, inj_map, inj_slice, exists_eq_left, List.getElem?_toArray, List.getElem?_cons_zero, List.getElem?_cons_succ, Option.isNone_some, Option.isNone_none, Bool.not_true, Bool.not_false, Bool.false_eq_true, if_true, if_false, reduceIte, eq_self, not_true_eq_false, not_false_eq_true, bne_self_eq_false, beq_self_eq_true, decide_true, decide_false, decide_eq_true_eq, beq_iff_eq, bne_iff_ne, ne_eq]
      refine loadK_cells rc (k := .slice) (j := 2) w rfl rfl ?_
      by_cases hkl : k < l[i].2.2.1.length
      · rw [if_pos (by first | omega | (simp [hwn]; omega))]
        by_cases hm2 : n2 ≤ 1500
        · rw [if_pos (by first | omega | (simp; omega))]
          refine hl.idx (sizeDeed26.trans rfl) (by decide) hlt fun b o cs rc lay => ?_
          obtain ⟨w, rfl, hw, _, _⟩ := LayC.deed lay
          obtain ⟨hrow, hby, hlen⟩ := hw.rows
          try simp only [derefK_some, fldK_some, Nat.zero_add, Nat.add_zero, Nat.reduceAdd, inj_int, inj_bool, inj_str, inj_ptr, inj_map, inj_slice, exists_eq_left, List.getElem?_toArray, List.getElem?_cons_zero, List.getElem?_cons_succ, Option.isNone_some, Option.isNone_none, Bool.not_true, Bool.not_false, Bool.false_eq_true, if_true, if_false, reduceIte, eq_self, not_true_eq_false, not_false_eq_true, bne_self_eq_false, beq_self_eq_true, decide_true, decide_false, decide_eq_true_eq, beq_iff_eq, bne_iff_ne, ne_eq]
          refine loadK_cells rc (k := .slice) (j := 2) w rfl rfl ?_
          refine hrow.idx (by kernel_rfl) hkl fun s1 r1 _ => ?_
          have h1 := r1.len
          have h2 := total_take hkl
          have h3 := hlen _ (List.getElem_mem hkl)
          simp at h1
          rw [wrapSucc (by omega), wrapI64 (by omega) (by omega)]
          exact hY _ _ ⟨k + 1, n2 + s1.n, by omega, by simp, rfl, by omega, by rw [h2]; omega, fun h => by rw [h2]; have := hq2 hm2; omega⟩ (by simp; omega)
        · rw [if_neg (by first | omega | (simp; omega)), wrapSucc (by omega)]
          exact hX _ _ ⟨i + 1, n2, by omega, rfl, rfl, hb2, by rw [hst]; omega, fun h => absurd h hm2⟩ (by simp; omega)
      · rw [if_neg (by first | omega | (simp [hwn]; omega)), wrapSucc (by omega)]
        have hk' : k = l[i].2.2.1.length := by omega
        subst hk'
        rw [List.take_length] at hq2
        exact hX _ _ ⟨i + 1, n2, by omega, rfl, rfl, hb2, by rw [hst]; omega, fun h => by rw [hst]; have := hq2 h; omega⟩ (by simp; omega)
    · rw [if_neg (by first | omega | (simp; omega))]
      refine H n hb (fun h => absurd h hm) (fun h => ?_)
      unfold deedsSize at h
      have : ((l.map deedSize).take i).sum ≤ (l.map deedSize).sum := by
        conv => rhs; rw [← List.take_append_drop i (l.map deedSize), List.sum_append]
        omega
      omega
  · rw [if_neg (by first | omega | (simp [hn]; omega))]
    have hi' : i = l.length := by omega
    subst hi'
    have ht : (l.map deedSize).take l.length = l.map deedSize := List.take_of_length_le (by simp)
    rw [ht] at hle hq
    exact H n hb (fun h => by unfold deedsSize; have := hq h; omega) (fun h => by unfold deedsSize at h; omega)


theorem build_Deed26 (v : Sl) (w : World) : (Instr.build T.zugzwanglaw26_Deed #[(2, .slice v.a v.n v.c)]).run Tryz.prog w = .ok (.agg #[.int .i64 0, .int .i64 0, slV v]) w := by kernel_rfl
/-! ### A journal that was put to -/
theorem framesT_byte (real : Bool) : ∀ (l : List (List Int)) (A : List ShThing.T) (i : Nat), (∀ b ∈ l, ∀ z ∈ b, isByte z) → ∀ z ∈ (framesT real A i l).1.flatten, isByte z
  | [], A, i, h, z, hz => by simp [framesT] at hz
  | b :: l, A, i, h, z, hz => by
    simp only [framesT, List.flatten_cons] at hz
    rcases List.mem_append.1 hz with hz | hz
    · exact frameT_byte real A i (h b (by simp)) z hz
    · exact framesT_byte real l _ _ (fun x hx => h x (by simp [hx])) z hz
theorem put_plain {real : Bool} {A : List ShThing.T} {rs rows : List (List Int)} (hk : KnownJ real A 0 rs) :
    KnownJ real (framesT real A rs.length rows).2 0 (rs ++ rows) ∧ (framesT real (framesT real A rs.length rows).2 0 (rs ++ rows)).1.flatten = (framesT real A 0 rs).1.flatten ++ (framesT real A rs.length rows).1.flatten := by
  obtain ⟨h1, h2⟩ := hk.since (framesT_grows real rows A rs.length)
  obtain ⟨h3, h4⟩ := framesT_since rows A rs.length (Since.refl _)
  refine ⟨h1.append (by simpa using h3), ?_⟩
  rw [framesT_append, h2]
  dsimp only
  rw [Nat.zero_add, h4, List.flatten_append]
theorem cntJ_all : ∀ (l : List (List Int)) (p : Nat), 36 * l.length + total l ≤ p → cntJ p l = l.length
  | [], p, _ => rfl
  | b :: l, p, h => by
    simp only [total, List.flatten_cons, List.length_append, List.length_cons] at h
    rw [cntJ, if_pos (by omega), cntJ_all l _ (by simp only [total]; omega), List.length_cons]
theorem total_mem {b : List Int} : ∀ {l : List (List Int)}, b ∈ l → b.length ≤ total l
  | [], h => by simp at h
  | c :: l, h => by
    rcases List.mem_cons.1 h with rfl | h
    · simp [total]
    · have := total_mem h
      simp only [total, List.flatten_cons, List.length_append] at this ⊢
      omega
theorem framesT_flat (real : Bool) (A : List ShThing.T) (i : Nat) (l : List (List Int)) : (framesT real A i l).1.flatten.length = 36 * l.length + total l := framesT_total real l A i

theorem Reopen_spec {g : GH} {kq kr kj kh ke pm pd safe p : Nat} (hk : okK [kq, kr, kj, kh, ke]) {real : Bool} {seed : List Int} {A : List ShThing.T} (x : MakC g 1 2 pm real seed A) {rs : List (List Int)} (dk : DiskC g kq kr pd safe ((framesT real A 0 rs).1.flatten.take p)) (hK : KnownJ real A 0 rs) (hs : ∀ b ∈ rs, b.length ≤ 4096) (hb : ∀ b ∈ rs, ∀ z ∈ b, isByte z) {R : Value → Heap → Prop}
    (H : ∀ (pj : Nat) (g' : GH), Mv (2 :: kq :: kr :: kj :: kh :: SJ) g g' → MakC g' 1 2 pm real seed A → DiskC g' kq kr pd (framesT real A 0 (rs.take (cntJ p rs))).1.flatten.length (framesT real A 0 (rs.take (cntJ p rs))).1.flatten → JrnC g' kj kh ke pj pm pd (rs.take (cntJ p rs)) → R (.tuple #[ptrV pj, .int .i64 0]) g'.h) :
    HC Tryz.prog F.journal_Open #[ptrV pm, ptrV pd] R g.h := by
  have hby := framesT_byte real rs A 0 hb
  obtain ⟨z, h1, h2, h3, h4⟩ := read_cut rs 0 p _ hK hs (Nat.le_refl ((framesT real A 0 rs).1.flatten.take p).length)
  refine Open_spec hk x dk (fun z h => hby z (List.mem_of_mem_take h)) fun pj g' m x' d' j' => ?_
  rw [h1] at x' d' j'
  dsimp only at x' d' j'
  have hc := cntJ_le rs p
  have hfl := framesT_flat real A 0 (rs.take (cntJ p rs))
  rw [List.length_take, Nat.min_eq_left hc] at hfl
  rw [show ((framesT real A 0 rs).1.flatten.take p).length - z.length = 36 * cntJ p rs + total (rs.take (cntJ p rs)) from by omega, List.take_take, Nat.min_eq_left h4, h3] at d'
  exact H pj g' m x' (by rw [hfl]; exact d') j'

set_option maxHeartbeats 2000000 in
theorem awake26_spec (g : GH) {R : Value → Heap → Prop} (H : ∀ g' : GH, Mv [] g g' → R (.bool true) g'.h) : HC Tryz.prog F.law26_awake #[] R g.h := by
  refine law26_awake.calls ?_
  unfold law26_awake.body
  have ok3 : okK [3, 4, 5, 6, 7] := by decide
  have m := Mv.refl (1 :: 2 :: 3 :: 4 :: 5 :: 6 :: 7 :: 8 :: SJ) g.base
  refine makNew_spec g.base 1 2 false ⟨none, 0, 0⟩ [] (RdC.nil _ _ 0 _ _) (by simp) (by simp) fun pm q1 m1 x => ⟨_, rfl, ?_⟩
  replace m := m.step m1 (by simp)
  refine NewDisk_spec q1 3 4 (by decide) ⟨none, 0, 0⟩ [] (RowsC.nil q1 0 _ _) (by decide) (by decide) (fun pd q2 _ m2 dk => ⟨(_, _), rfl, ?_⟩) (fun _ h => absurd (by decide) h)
  replace m := m.step m2 (by simp)
  replace x := x.mv m2 (by simp) (by simp)
  refine Reopen_spec (rs := []) (p := 0) ok3 x dk trivial (by simp) (by simp) fun pj q3 m3 x dk j => ⟨(_, _), rfl, ?_⟩
  rw [List.take_nil] at dk j
  replace m := m.step m3 (by simp)
  try dsimp only
  rw [if_neg (by simp), if_neg (by simp)]
  refine newSl_C q3 8 rfl fun s4 q4 m4 o4 hn4 hc4 => ?_
  refine newSl_C q4 8 rfl fun s5 q5 m5 o5 hn5 hc5 => ?_
  refine newSl_C q5 8 rfl fun s6 q6 m6 o6 hn6 hc6 => ?_
  have r6 : RowsC q6 8 s6 [[7], [8, 9]] := RowsC.two o6.rd ((o4.rd.mv m5 (by simp)).mv m6 (by simp)) (by omega) (o5.rd.mv m6 (by simp)) (by omega)
  have e46 : Mv [] q3 q6 := (m4.step m5 (by simp)).step m6 (by simp)
  replace m := m.step e46 (by simp)
  refine jPut_spec ok3 (by decide) (x.mv e46 (by simp) (by simp)) (dk.mv e46 (by simp) (by simp)) (j.mv e46 (by simp) (by simp) (by simp)) s6 _ r6 (by simp [isByte]) (by decide) (by decide) (fun _ hfit q7 m7 x dk j => ⟨_, rfl, ?_⟩) (fun h => absurd (by decide) h) (fun _ h => absurd (by rw [framesT_total]; decide) h)
  replace m := m.step m7 (by simp)
  have pp := put_plain (real := false) (A := []) (rs := []) (rows := [[7], [8, 9]]) trivial
  rw [← pp.2] at dk
  have hK := pp.1
  clear pp
  generalize (framesT false [] ([] : List (List Int)).length [[7], [8, 9]]).2 = A1 at x dk hK
  try dsimp only
  rw [if_neg (by simp)]
  refine jSync_spec (by decide) j dk fun q8 m8 dk => ⟨_, rfl, ?_⟩
  replace m := m.step m8 (by simp)
  replace x := x.mv m8 (by simp) (by simp)
  replace j := j.mv m8 (by simp) (by simp) (by simp)
  try dsimp only
  rw [if_neg (by simp)]
  refine newSl_C q8 8 rfl fun s9 q9 m9 o9 hn9 hc9 => ?_
  refine newSl_C q9 8 rfl fun s10 q10 m10 o10 hn10 hc10 => ?_
  have r10 : RowsC q10 8 s10 [[1]] := RowsC.one o10.rd (o9.rd.mv m10 (by simp)) (by omega)
  have e10 : Mv [] q8 q10 := m9.step m10 (by simp)
  replace m := m.step e10 (by simp)
  refine jPut_spec ok3 (by decide) (x.mv e10 (by simp) (by simp)) (dk.mv e10 (by simp) (by simp)) (j.mv e10 (by simp) (by simp) (by simp)) s10 _ r10 (by simp [isByte]) (by decide) (by decide) (fun _ hfit q11 m11 x dk j => ⟨_, rfl, ?_⟩) (fun h => absurd (by decide) h) (fun _ h => absurd (by rw [framesT_total, framesT_flat]; decide) h)
  replace m := m.step m11 (by simp)
  have pp := put_plain (rows := [[1]]) hK
  have hf1 := framesT_flat false A1 0 ([] ++ [[7], [8, 9]])
  rw [← pp.2, hf1] at dk
  have hK := pp.1
  clear pp hf1
  generalize (framesT false A1 ([] ++ [[7], [8, 9]] : List (List Int)).length [[1]]).2 = A2 at x dk hK
  try dsimp only
  rw [if_neg (by simp)]
  refine Len_spec dk ⟨_, rfl, ?_⟩
  have hf2 := framesT_flat false A2 0 ([] ++ [[7], [8, 9]] ++ [[1]])
  rw [hf2]
  try dsimp only
  rw [if_neg (by decide)]
  refine Fall_spec (by decide) dk 36 fun q12 m12 dk => ⟨_, rfl, ?_⟩
  replace m := m.step m12 (by simp)
  rw [hf2] at dk
  refine Reopen_spec ok3 (x.mv m12 (by simp) (by simp)) dk hK (by decide) (by simp [isByte]) fun pj2 q13 m13 x dk j => ⟨(_, _), rfl, ?_⟩
  replace m := m.step m13 (by simp)
  replace j : JrnC q13 5 6 7 pj2 pm pd [[7], [8, 9]] := j
  replace dk : DiskC q13 3 4 pd (framesT false A2 0 [[7], [8, 9]]).1.flatten.length (framesT false A2 0 [[7], [8, 9]]).1.flatten := dk
  try dsimp only
  rw [if_pos (by simp)]
  refine jRecords_spec j (by decide) (by decide) 8 fun s14 q14 m14 r14 hc14 => ⟨_, rfl, ?_⟩
  replace m := m.step m14 (by simp)
  refine newSl_C q14 8 rfl fun s15 q15 m15 o15 hn15 hc15 => ?_
  refine newSl_C q15 8 rfl fun s16 q16 m16 o16 hn16 hc16 => ?_
  refine newSl_C q16 8 rfl fun s17 q17 m17 o17 hn17 hc17 => ?_
  have r17 : RowsC q17 8 s17 [[7], [8, 9]] := RowsC.two o17.rd ((o15.rd.mv m16 (by simp)).mv m17 (by simp)) (by omega) (o16.rd.mv m17 (by simp)) (by omega)
  have e17 : Mv [] q14 q17 := (m15.step m16 (by simp)).step m17 (by simp)
  replace m := m.step e17 (by simp)
  replace dk := (dk.mv m14 (by simp) (by simp)).mv e17 (by simp) (by simp)
  refine SameByteRows_spec s14 s17 _ _ (r14.mv e17 (by simp)) r17 (by decide) (by decide) (by decide) (by decide) ⟨_, rfl, ?_⟩
  rw [decide_eq_true rfl]
  try dsimp only
  rw [if_pos rfl]
  refine Len_spec dk ⟨_, rfl, ?_⟩
  rw [framesT_flat]
  exact H (g.via q17 fun _ => 0) (m.via (by simp) _)

end Go.Proofs.YtgongoaiflphaaaGreat
