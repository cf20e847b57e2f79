/-
  The statement JournalDoes.
-/
import Derived.Test.YtgongoaiflphaaaGreatKRef26
set_option linter.unusedSimpArgs false
set_option linter.unusedVariables false
namespace Go.Proofs.YtgongoaiflphaaaGreat
open Go Go.Ev

theorem jAt_spec {g : GH} {kj kh ke pj pm pd : Nat} {rs : List (List Int)} (j : JrnC g kj kh ke pj pm pd rs) (hl : rs.length ≤ 10000000) (hb : ∀ x ∈ rs, x.length ≤ 1000000000) (n : Int) (c : Nat) {R : Value → Heap → Prop}
    (H1 : ∀ (h0 : 0 ≤ n) (h1 : n.toNat < rs.length) (s : Sl) (g' : GH), Mv [] g g' → OwnC T.uint8 1 g' c s (rs[n.toNat].map byV) → R (.tuple #[slV s, .bool true]) g'.h) (H2 : ¬ (0 ≤ n ∧ n.toNat < rs.length) → R (.tuple #[slV ⟨none, 0, 0⟩, .bool false]) g.h) :
    HC Tryz.prog F.journal_Journal_At #[ptrV pj, .int .i64 n] R g.h := by
  refine journal_Journal_At.calls ?_
  unfold journal_Journal_At.body
  by_cases h0 : n < 0
  · rw [if_pos (by simpa using h0)]
    exact H2 (by omega)
  rw [if_neg (by simpa using h0)]
  refine jLen_spec j ⟨_, rfl, ?_⟩
  try dsimp only
  by_cases h1 : n ≥ (rs.length : Nat)
  · rw [if_pos (by simpa using h1)]
    exact H2 (by omega)
  rw [if_neg (by simpa using h1)]
  obtain ⟨s, b, r⟩ := j
  rw [derefK_some, fldK_some, loadK_C b]
  refine ⟨s, rfl, ?_⟩
  have h2 : n.toNat < rs.length := by omega
  obtain ⟨k, rfl⟩ := Int.eq_ofNat_of_zero_le (show 0 ≤ n by omega)
  refine r.idx (by kernel_rfl) h2 fun sl rsl hsl => ?_
  refine CloneBytes_spec g c sl _ rsl.rd (hb _ (List.getElem_mem h2)) fun s2 q2 m2 o2 => ⟨_, rfl, ?_⟩
  exact H1 (by omega) h2 s2 q2 m2 o2

set_option maxHeartbeats 2000000 in
theorem same26_spec {g : GH} {kq kr kj kh ke pj pm pd kq' kr' kj' kh' ke' pj' pm' pd' : Nat} {A B : List Int} {rs : List (List Int)} (j : JrnC g kj kh ke pj pm pd rs) (dk : DiskC g kq kr pd A.length (A ++ B)) (r : RjC g kj' kh' ke' pj' pm' pd' rs) (dr : RefC g kq' kr' pd' A B) (hl : rs.length ≤ 10000000) (hb : ∀ x ∈ rs, x.length ≤ 1000000000) (n : Int) {R : Value → Heap → Prop}
    (H : ∀ g' : GH, Mv [] g g' → R (.bool true) g'.h) : HC Tryz.prog F.law26_same #[ptrV pj, ptrV pd, ptrV pj', .int .i64 n] R g.h := by
  refine law26_same.calls ?_
  unfold law26_same.body
  have at_ : HC Tryz.prog F.journal_Journal_At #[ptrV pj, .int .i64 n] (fun v h' => ∃ (s : Sl) (b : Bool) (q : GH), v = .tuple #[slV s, .bool b] ∧ h' = q.h ∧ Mv [] g q ∧ b = decide (0 ≤ n ∧ n.toNat < rs.length) ∧
      (∀ (h1 : n.toNat < rs.length), b = true → OwnC T.uint8 1 q 0 s (rs[n.toNat].map byV)) ∧ (b = false → s = ⟨none, 0, 0⟩)) g.h := by
    refine jAt_spec j hl hb n 0 (fun h0 h1 s q m o => ⟨s, true, q, rfl, rfl, m, by rw [decide_eq_true ⟨h0, h1⟩], fun _ _ => o, fun h => by cases h⟩) (fun h => ⟨_, false, g, rfl, rfl, Mv.refl _ _, by rw [decide_eq_false h], fun _ h => (by cases h), fun _ => rfl⟩)
  refine at_.mono ?_
  rintro _ _ ⟨s, b, q, rfl, rfl, m, hb', hs1, hs2⟩
  refine ⟨(s, b), rfl, ?_⟩
  replace j := j.mv m (by simp) (by simp) (by simp)
  replace r := r.mv m (by simp) (by simp) (by simp)
  replace dk := dk.mv m (by simp) (by simp)
  replace dr := dr.mv m (by simp) (by simp)
  obtain ⟨sr, br, rr⟩ := r
  have hsr := rr.len
  refine joinW_intro (fun st h' => st = b ∧ h' = q.h) ?_ ?_
  · intro J hJ
    by_cases h0 : n ≥ 0
    · rw [if_pos (by simpa using h0), derefK_some, fldK_some, loadK_C br]
      refine ⟨sr, rfl, ?_⟩
      refine hJ _ _ ⟨?_, rfl⟩
      rw [hb', Bool.eq_iff_iff, decide_eq_true_iff, decide_eq_true_iff]
      omega
    · rw [if_neg (by simpa using h0)]
      refine hJ _ _ ⟨?_, rfl⟩
      rw [hb']; symm; rw [decide_eq_false_iff_not]; omega
  rintro st _ ⟨hst, rfl⟩
  obtain ⟨b', hbb⟩ : ∃ b', b' = b := ⟨b, rfl⟩
  rw [← hbb] at hst hb' hs1 hs2 ⊢
  subst hst
  clear hbb
  try dsimp only
  refine joinW_intro (fun st h' => st = true ∧ h' = q.h) ?_ ?_
  · intro J hJ
    rw [if_pos (by simp)]
    cases st with
    | false =>
      rw [if_pos (by rfl), if_neg (by simp)]
      refine hJ _ _ ⟨?_, rfl⟩
      rw [hs2 rfl]; rfl
    | true =>
      rw [if_neg (by simp)]
      have hc := of_decide_eq_true hb'.symm
      rw [derefK_some, fldK_some, loadK_C br]
      refine ⟨sr, rfl, ?_⟩
      obtain ⟨k, rfl⟩ := Int.eq_ofNat_of_zero_le hc.1
      have h1 : k < rs.length := hc.2
      refine rr.idx (by kernel_rfl) h1 fun sl rsl hsl => ?_
      have o := hs1 h1 rfl
      refine SameBytes_spec s sl rs[k] rs[k] o.rd.rd rsl.rd (by have := hb _ (List.getElem_mem h1); omega) (by have := hb _ (List.getElem_mem h1); omega) ⟨_, rfl, ?_⟩
      rw [decide_eq_true rfl]
      try dsimp only
      rw [if_pos rfl, if_pos rfl]
      exact hJ _ _ ⟨rfl, rfl⟩
  rintro _ _ ⟨rfl, rfl⟩
  rw [if_pos rfl, derefK_some, fldK_some, loadK_C br]
  refine ⟨sr, rfl, ?_⟩
  refine jLen_spec j ⟨_, rfl, ?_⟩
  refine ⟨stillK_C br rfl, ?_⟩
  try dsimp only
  rw [if_pos (by simp [hsr]), derefK_some, fldK_some, loadK_C br]
  refine ⟨sr, rfl, ?_⟩
  refine jRecords_spec j hl hb 0 fun s2 q2 m2 r2 _ => ⟨_, rfl, ?_⟩
  replace br := br.mv m2 (by simp)
  replace rr := rr.mv m2 (by simp) (by simp)
  replace dk := dk.mv m2 (by simp) (by simp)
  replace dr := dr.mv m2 (by simp) (by simp)
  refine ⟨stillK_C br rfl, ?_⟩
  refine sameR2_spec' r2 rr (by omega) hb ⟨_, rfl, ?_⟩
  try dsimp only
  rw [if_pos rfl, derefK_some, fldK_some, loadK_C br]
  refine ⟨_, rfl, ?_⟩
  have hlen : (A ++ B).length ≤ 1048576 := by obtain ⟨_, _, _, _, h⟩ := dk; exact h
  refine Bytes_spec' q2 0 dk fun s3 q3 m3 o3 => ⟨_, rfl, ?_⟩
  refine ⟨stillK_C (br.mv m3 (by simp)) rfl, ?_⟩
  refine RefBytes_spec q3 0 (dr.mv m3 (by simp) (by simp)) fun s4 q4 m4 o4 => ⟨_, rfl, ?_⟩
  have m34 := m3.step m4 (by simp)
  replace br := br.mv m34 (by simp)
  replace dk := dk.mv m34 (by simp) (by simp)
  replace dr := dr.mv m34 (by simp) (by simp)
  refine SameBytes_spec s3 s4 (A ++ B) (A ++ B) (o3.mv m4 (by simp)).rd.rd o4.rd.rd (by omega) (by omega) ⟨_, rfl, ?_⟩
  rw [decide_eq_true rfl]
  try dsimp only
  rw [if_pos rfl, derefK_some, fldK_some, loadK_C br]
  refine ⟨_, rfl, ?_⟩
  obtain ⟨sa, st, bd, oa, ot, hr'⟩ := dr
  have hsa := oa.len
  rw [List.length_map] at hsa
  rw [derefK_some, fldK_some, loadK_C bd]
  refine ⟨sa, rfl, ?_⟩
  refine Synced_spec dk ⟨_, rfl, ?_⟩
  refine ⟨stillK_C bd rfl, stillK_C br rfl, ?_⟩
  rw [show ((A.length : Int) == (sa.n : Int)) = true from by simp [hsa]]
  exact H q4 ((m.step m2 (by simp)).step m34 (by simp))

theorem fall26 (A B : List Int) (n : Int) : fallTo A.length (A ++ B).length n = (A ++ B.take (min n.toNat B.length)).length ∧ (A ++ B).take (fallTo A.length (A ++ B).length n) = A ++ B.take (min n.toNat B.length) := by
  have h : fallTo A.length (A ++ B).length n = A.length + min n.toNat B.length := by unfold fallTo; rw [List.length_append]; omega
  rw [h]
  refine ⟨by rw [List.length_append, List.length_take]; omega, ?_⟩
  rw [List.take_append, List.take_of_length_le (by omega)]
  congr 2
  omega
theorem framesR (rs : List (List Int)) : ∀ (i : Nat), (framesT true [] i rs).2 = [] := by
  induction rs with
  | nil => intro i; rfl
  | cons b l ih => intro i; simp only [framesT]; rw [frameT_real]; exact ih _
theorem bldMk26 (w : World) : (Instr.build T.zugzwangref04_Maker #[(0, .bool true)]).run Tryz.prog w = .ok (.agg #[.bool true, .slice none 0 0, .slice none 0 0]) w := by kernel_rfl
theorem bldR25 (s : Sl) (w : World) : (Instr.build T.zugzwangref25_Disk #[(0, .slice s.a s.n s.c)]).run Tryz.prog w = .ok (.agg #[.slice s.a s.n s.c, .slice none 0 0]) w := by kernel_rfl

abbrev KD : List Nat := 1 :: 2 :: 3 :: 4 :: 5 :: 6 :: 7 :: 30 :: 31 :: 33 :: 34 :: 35 :: 40 :: 41 :: 120 :: SJ
/-- The program's journal and the document's. -/
structure Both26 (g q : GH) (pm pd pm' pd' pj pr : Nat) (A B : List Int) (rs : List (List Int)) : Prop where
  m : Mv KD g.base q
  x : MakC q 1 2 pm true [] []
  xr : Mk26 q 30 pm'
  dk : DiskC q 3 4 pd A.length (A ++ B)
  dr : RefC q 31 0 pd' A B
  j : JrnC q 5 6 7 pj pm pd rs
  r : RjC q 33 34 35 pr pm' pd' rs
  by_ : ∀ z ∈ A ++ B, isByte z
  sz : 36 * rs.length + total rs ≤ (A ++ B).length
theorem Both26.len {g q : GH} {pm pd pm' pd' pj pr : Nat} {A B : List Int} {rs : List (List Int)} (b : Both26 g q pm pd pm' pd' pj pr A B rs) : (A ++ B).length ≤ 1048576 := by
  obtain ⟨_, _, _, _, h⟩ := b.dk; exact h
theorem Both26.small {g q : GH} {pm pd pm' pd' pj pr : Nat} {A B : List Int} {rs : List (List Int)} (b : Both26 g q pm pd pm' pd' pj pr A B rs) : ∀ x ∈ rs, x.length ≤ 1000000000 := by
  intro x hx
  have := total_mem hx
  have := b.sz
  have := b.len
  omega
theorem Both26.step {g q q' : GH} {K : List Nat} {pm pd pm' pd' pj pr : Nat} {A B : List Int} {rs : List (List Int)} (b : Both26 g q pm pd pm' pd' pj pr A B rs) (m : Mv K q q') (h : ∀ k ∈ K, k = 40 ∨ k = 41) : Both26 g q' pm pd pm' pd' pj pr A B rs := by
  have n : ∀ k, ¬ k = 40 → ¬ k = 41 → k ∉ K := fun k h1 h2 hk => (h k hk).elim h1 h2
  exact ⟨b.m.step m (fun k hk => by rcases h k hk with rfl | rfl <;> simp), b.x.mv m (n _ (by decide) (by decide)) (n _ (by decide) (by decide)), b.xr.mv m (n _ (by decide) (by decide)), b.dk.mv m (n _ (by decide) (by decide)) (n _ (by decide) (by decide)), b.dr.mv m (n _ (by decide) (by decide)) (n _ (by decide) (by decide)), b.j.mv m (n _ (by decide) (by decide)) (n _ (by decide) (by decide)) (n _ (by decide) (by decide)), b.r.mv m (n _ (by decide) (by decide)) (n _ (by decide) (by decide)) (n _ (by decide) (by decide)), b.by_, b.sz⟩
theorem ok26 : okK [3, 4, 5, 6, 7] := by decide
/-- Both are opened. -/
theorem openBoth {g q : GH} {pm pd pm' pd' safe : Nat} {A B : List Int} (m : Mv KD g.base q) (x : MakC q 1 2 pm true [] []) (xr : Mk26 q 30 pm') (dk : DiskC q 3 4 pd safe (A ++ B)) (dr : RefC q 31 0 pd' A B) (hby : ∀ z ∈ A ++ B, isByte z) {R : Option Addr × Int → Heap → Prop}
    (H : ∀ (pj : Nat) (q1 : GH), (∀ {K : Option Addr → Heap → Prop}, (∀ (pr : Nat) (q2 : GH) (A' : List Int) (rs : List (List Int)), Mv (2 :: 3 :: 4 :: 5 :: 6 :: 31 :: SJ) q q2 → Both26 g q2 pm pd pm' pd' pj pr A' [] rs → K (some ⟨pr, 0, none⟩) q2.h) → callK Tryz.prog .ptr F.ref26_Open #[ptrV pm', ptrV pd'] K q1.h) → Mv (2 :: 3 :: 4 :: 5 :: 6 :: SJ) q q1 → R (some ⟨pj, 0, none⟩, 0) q1.h) :
    callK Tryz.prog (Kd.pair .ptr (.int .i64)) F.journal_Open #[ptrV pm, ptrV pd] R q.h := by
  have hsz := readJ_size true (A ++ B).length [] 0 (A ++ B)
  have hrl := readJ_real (A ++ B).length [] 0 (A ++ B)
  have hlen := readJ_len true (A ++ B).length [] 0 (A ++ B)
  refine Open_spec ok26 x dk hby fun pj q1 m1 x1 d1 j1 => ⟨(_, _), rfl, ?_⟩
  rw [hrl] at x1
  refine H pj q1 (fun {K} HK => ?_) m1
  refine refOpen_spec (kj := 33) (kh := 34) (ke := 35) (by decide) (xr.mv m1 (by simp)) (by decide) (dr.mv m1 (by simp) (by simp)) hby fun pr q2 m2 d2 r2 => ⟨_, rfl, ?_⟩
  have hAl : ((A ++ B).take ((A ++ B).length - (readJ true (A ++ B).length [] 0 (A ++ B)).2.1.length)).length = (A ++ B).length - (readJ true (A ++ B).length [] 0 (A ++ B)).2.1.length := by rw [List.length_take]; omega
  refine HK pr q2 ((A ++ B).take ((A ++ B).length - (readJ true (A ++ B).length [] 0 (A ++ B)).2.1.length)) _ (m1.then m2 (by simp)) ⟨(m.step m1 (by simp)).step m2 (by simp), x1.mv m2 (by simp) (by simp), (xr.mv m1 (by simp)).mv m2 (by simp), ?_, d2, j1.mv m2 (by simp) (by simp) (by simp), r2 (by decide) (by decide), ?_, ?_⟩
  · rw [List.append_nil, hAl]; exact d1.mv m2 (by simp) (by simp)
  · rw [List.append_nil]; exact fun z hz => hby z (List.mem_of_mem_take hz)
  · rw [List.append_nil, hAl]; omega

set_option maxHeartbeats 8000000 in
theorem JournalDoes_spec (g : GH) {c d : Nat} (vb : Sl) (bs : List Int) (hb : SlC g c (.int .u8) vb bs) (vl : Sl) (l : List Deed) (hl : SlC g d ShDeed vl l) {R : Value → Heap → Prop} (H : ∀ g' : GH, Mv [] g g' → R (.bool true) g'.h) :
    HC Tryz.prog F.law26_JournalDoes #[.slice vb.a vb.n vb.c, .slice vl.a vl.n vl.c] R g.h := by
  refine law26_JournalDoes.calls (b0 := vb) (l1 := vl) ?_
  unfold law26_JournalDoes.body
  have m := Mv.refl KD g.base
  have fin : ∀ q : GH, Mv KD g.base q → R (.bool true) q.h := fun q m => H (g.via q fun _ => 0) (m.via (by simp) _)
  have hl0 : ∀ q : GH, Mv KD g.base q → SlC q 0 ShDeed vl l := fun q m => hl.arg m (by simp)
  have hb0 : ∀ q : GH, Mv KD g.base q → RdC 1 q 0 vb (bs.map byV) := fun q m => (SlC.ints (hb.arg m (by simp))).1
  have hby : ∀ z ∈ bs, isByte z := fun z hz => (SlC.ints hb).2 z hz
  have hbn := hb.len
  have hbc := hb.cap
  have hbs := hb.small
  have hn := hl.len
  have awake : ∀ q : GH, Mv KD g.base q → callK Tryz.prog .bool F.law26_awake #[] (fun (v : Bool) h => R (.bool v) h) q.h := by
    intro q m
    refine awake26_spec q fun q' m' => ⟨_, rfl, ?_⟩
    exact fin q' (m.step m' (by simp))
  refine size26_spec vl l (hl0 g.base m) fun n hn1 hn2 _ => ⟨_, rfl, ?_⟩
  try dsimp only
  rw [wrapI64 (n := (n : Int) + (vb.n : Int)) (by omega) (by omega)]
  by_cases hbig : (n : Int) + (vb.n : Int) > 1500
  · rw [if_pos (by simpa using hbig)]; exact awake g.base m
  rw [if_neg (by simpa using hbig)]
  have hsz := hn2 (by omega)
  unfold deedsSize at hsz
  refine makNew_spec g.base 1 2 true ⟨none, 0, 0⟩ [] (RdC.nil _ _ 0 _ _) (by simp) (by simp) fun pm q1 m1 x => ⟨_, rfl, ?_⟩
  replace m := m.step m1 (by simp)
  refine ⟨_, bldMk26, ?_⟩
  refine new_C q1 30 fun pm' q2 m2 bm => ?_
  replace m := m.step m2 (by simp)
  have xr : Mk26 q2 30 pm' := ⟨_, _, bm, rfl⟩
  refine newSl_C q2 0 rfl fun s3 q3 m3 o3 hn3 hc3 => ?_
  replace m := m.step m3 (by simp)
  have r3 : RowsC q3 0 s3 [bs] := RowsC.one o3.rd (hb0 q3 m) hbc
  have hfl : total [bs] = bs.length := by simp [total]
  refine NewDisk_spec q3 3 4 (by decide) s3 _ r3 (by omega) (by simp) (fun pd q4 _ m4 dk => ⟨(_, _), rfl, ?_⟩) (fun _ h => absurd (by omega) h)
  rw [hfl, List.flatten_cons, List.flatten_nil, List.append_nil] at dk
  replace m := m.step m4 (by simp)
  have x4 := ((x.mv m2 (by simp) (by simp)).mv m3 (by simp) (by simp)).mv m4 (by simp) (by simp)
  have xr4 := (xr.mv m3 (by simp)).mv m4 (by simp)
  -- the document's disk is made behind the opening
  have hsz0 := readJ_size true bs.length [] 0 bs
  have hrl0 := readJ_real bs.length [] 0 bs
  have hlen0 := readJ_len true bs.length [] 0 bs
  refine Open_spec ok26 x4 dk hby fun pj q5 m5 x5 d5 j5 => ⟨(_, _), rfl, ?_⟩
  rw [hrl0] at x5
  replace m := m.step m5 (by simp)
  refine ⟨_, bldR25 vb, ?_⟩
  refine new_C q5 31 fun pd' q6 m6 b6 => ?_
  replace m := m.step m6 (by simp)
  have dr : RefC q6 31 0 pd' bs [] := ⟨vb, ⟨none, 0, 0⟩, b6, hb0 q6 m, RdC.nil _ _ _ _ _, trivial, .inl rfl, hbc, Nat.le_refl _, by simp; omega⟩
  refine refOpen_spec (kj := 33) (kh := 34) (ke := 35) (by decide) ((xr4.mv m5 (by simp)).mv m6 (by simp)) (by decide) dr (by simpa using hby) fun pr q7 m7 d7 r7 => ⟨_, rfl, ?_⟩
  rw [List.append_nil] at d7 r7
  have hAl : (bs.take (bs.length - (readJ true bs.length [] 0 bs).2.1.length)).length = bs.length - (readJ true bs.length [] 0 bs).2.1.length := by rw [List.length_take]; omega
  have b7 : Both26 g q7 pm pd pm' pd' pj pr (bs.take (bs.length - (readJ true bs.length [] 0 bs).2.1.length)) [] (readJ true bs.length [] 0 bs).1 := by
    refine ⟨m.step m7 (by simp), (x5.mv m6 (by simp) (by simp)).mv m7 (by simp) (by simp), (((xr4.mv m5 (by simp)).mv m6 (by simp))).mv m7 (by simp), ?_, d7, (j5.mv m6 (by simp) (by simp) (by simp)).mv m7 (by simp) (by simp) (by simp), r7 (by decide) (by decide), ?_, ?_⟩
    · rw [List.append_nil, hAl]; exact (d5.mv m6 (by simp) (by simp)).mv m7 (by simp) (by simp)
    · rw [List.append_nil]; exact fun z hz => hby z (List.mem_of_mem_take hz)
    · rw [List.append_nil, hAl]; omega
  try dsimp only
  rw [if_neg (by simp)]
  refine same26_spec b7.j b7.dk b7.r b7.dr (by have := b7.sz; have := b7.len; omega) b7.small 0 fun q8 m8 => ⟨_, rfl, ?_⟩
  try dsimp only
  rw [if_neg (by simp)]
  have b8 := b7.step m8 (by simp)
  refine loopW_rule (fun st h' => ∃ (i pj pr : Nat) (A B : List Int) (rs : List (List Int)) (q : GH), i ≤ l.length ∧ st = (some ⟨pj, 0, none⟩, (0 : Int), some ⟨pr, 0, none⟩, (i : Int)) ∧ h' = q.h ∧ Both26 g q pm pd pm' pd' pj pr A B rs) (fun st => l.length - st.2.2.2.toNat)
    ⟨0, pj, pr, _, _, _, q8, by omega, rfl, rfl, b8⟩ ?_
  clear b8 b7 r7 d7 dr b6 j5 x5 d5 dk x4 xr4 r3 o3 xr bm x m m1 m2 m3 m4 m5 m6 m7 m8 hsz0 hrl0 hlen0 hAl pj pr
  rintro X _ _ ⟨i, pj, pr, A, B, rs, q, hi, rfl, rfl, b⟩ hX
  try dsimp only
  by_cases hlt : i < l.length
  rotate_left
  · rw [if_neg (by simp; omega)]
    exact awake q b.m
  rw [if_pos (by simp; omega)]
  have htake : deedSize l[i] ≤ 1500 := by
    have hst := sum_take (l := l.map deedSize) (i := i) (by simpa using hlt)
    rw [List.getElem_map] at hst
    have : ((l.map deedSize).take (i + 1)).sum ≤ (l.map deedSize).sum := by
      conv => rhs; rw [← List.take_append_drop (i + 1) (l.map deedSize), List.sum_append]
      omega
    omega
  have hds : deedSize l[i] = l[i].2.2.1.length + total l[i].2.2.1 := rfl
  have hsm : ∀ b ∈ l[i].2.2.1, b.length ≤ 4096 := fun b hb => by have := total_mem hb; omega
  refine (hl0 q b.m).idx (sizeDeed26.trans rfl) (by decide) hlt fun b1 o1 cs rc lay => ?_
  obtain ⟨w, rfl, hw, ha, hnum⟩ := LayC.deed lay
  rw [fldK_some]
  refine loadK_cells rc (k := .slice) (j := 2) w rfl rfl ?_
  have hrb : ∀ b ∈ l[i].2.2.1, ∀ z ∈ b, isByte z := fun b hb z hz => hw.rows.2.1 b hb z hz
  refine LentByteRows_C q 41 w l[i].2.2.1 hw.rows.1 (by omega) (fun x hx => by have := hsm x hx; omega) fun s2 q2 m2 lent => ⟨_, rfl, ?_⟩
  replace b := b.step m2 (by simp)
  try dsimp only
  refine joinW_intro (fun st h' => ∃ (pj pr : Nat) (A B : List Int) (rs : List (List Int)) (q : GH), st = (some ⟨pj, 0, none⟩, (0 : Int), some ⟨pr, 0, none⟩, true) ∧ h' = q.h ∧ Both26 g q pm pd pm' pd' pj pr A B rs ∧ LentRowsC q 41 s2 l[i].2.2.1) ?_ ?_
  · intro J hJ
    refine (hl0 q2 b.m).idx (sizeDeed26.trans rfl) (by decide) hlt fun b1 o1 cs rc lay => ?_
    obtain ⟨w, rfl, hw, ha, hnum⟩ := LayC.deed lay
    rw [fldK_some]
    refine loadK_cells rc (k := .int .i64) (j := 0) l[i].1 rfl rfl ?_
    refine Pick_spec _ 4 ha (by decide) ⟨_, rfl, ?_⟩
    try dsimp only
    by_cases h0 : l[i].1 % 4 = 0
    · rw [if_pos (by simpa using h0)]
      refine (hl0 q2 b.m).idx (sizeDeed26.trans rfl) (by decide) hlt fun b1 o1 cs rc lay => ?_
      obtain ⟨w, rfl, hw, ha, hnum⟩ := LayC.deed lay
      rw [fldK_some]
      refine loadK_cells rc (k := .slice) (j := 2) w rfl rfl ?_
      have after : ∀ (q' : GH) (A B : List Int) (rs : List (List Int)) (e : Int), Both26 g q' pm pd pm' pd' pj pr A B rs → LentRowsC q' 41 s2 l[i].2.2.1 →
          loopW (fun X (s : Int) (h : Heap) => callK Tryz.prog (.int .i64) F.journal_Journal_Len #[ptrV pj] (fun (v : Int) h => if decide (s < v) = true then callK Tryz.prog (Kd.pair .slice .bool) F.journal_Journal_At #[ptrV pj, .int .i64 s] (fun (v : Sl × Bool) h => callK Tryz.prog .unit F.kit_OverBytes #[.slice v.1.a v.1.n v.1.c] (fun (_ : Unit) h => X (IntKind.i64.wrap (s + 1)) h) h) h else J (some ⟨pj, 0, none⟩, (0 : Int), some ⟨pr, 0, none⟩, e == e) h) h) 0 q'.h := by
        intro q' A B rs e b' lent'
        have hrl : rs.length ≤ 1048576 := by have := b'.sz; have := b'.len; omega
        refine loopW_rule (fun st h' => ∃ (k : Nat) (q : GH), k ≤ rs.length ∧ st = (k : Int) ∧ h' = q.h ∧ Both26 g q pm pd pm' pd' pj pr A B rs ∧ LentRowsC q 41 s2 l[i].2.2.1) (fun st => rs.length - st.toNat) ⟨0, q', by omega, rfl, rfl, b', lent'⟩ ?_
        rintro Y _ _ ⟨k, q, hk, rfl, rfl, b, lent⟩ hY
        refine jLen_spec b.j ⟨_, rfl, ?_⟩
        try dsimp only
        by_cases hlt2 : k < rs.length
        · rw [if_pos (by simp; omega)]
          refine jAt_spec b.j (by omega) b.small (k : Int) 40 (fun _ h1 s3 q3 m3 o3 => ⟨(_, _), rfl, ?_⟩) (fun h => absurd ⟨by omega, by omega⟩ h)
          have hol := o3.len
          rw [List.length_map] at hol
          have hsm3 := b.small _ (List.getElem_mem h1)
          refine OverBytes_C o3 (by rw [hol]; exact hsm3) fun q4 m4 => ⟨(), rfl, ?_⟩
          rw [wrapSucc (by omega)]
          exact hY _ _ ⟨k + 1, q4, by omega, rfl, rfl, (b.step m3 (by simp)).step m4 (by simp), (lent.mv m3 (by simp)).mv m4 (by simp)⟩ (by simp; omega)
        · rw [if_neg (by simp; omega)]
          exact hJ _ _ ⟨pj, pr, A, B, rs, q, by simp, rfl, b, lent⟩
      have hrl : rs.length ≤ 1048576 := by have := b.sz; have := b.len; omega
      have hfr := framesR l[i].2.2.1 rs.length
      have htot := framesT_total true l[i].2.2.1 [] rs.length
      refine jPut_spec (d := 41) ok26 (by decide) b.x b.dk b.j s2 l[i].2.2.1 lent.rows hrb (by omega) (by omega) (fun _ hfit q3 m3 x3 d3 j3 => ⟨_, rfl, ?_⟩) (fun h => absurd hsm h) (fun _ hfit q3 m3 x3 => ⟨_, rfl, ?_⟩)
      · rw [hfr] at x3
        refine ⟨loadK_cells (rc.mv m3 (by simp)) (k := .slice) (j := 2) w rfl rfl rfl, ?_⟩
        have M3 := b.m.step m3 (by simp)
        have hw3 := hw.mv m3 (by simp)
        refine rjPut_spec (d := 0) (by decide) (by decide) (by decide) (by decide) (b.xr.mv m3 (by simp)) (b.dr.mv m3 (by simp) (by simp)) (b.r.mv m3 (by simp) (by simp) (by simp)) w l[i].2.2.1 hw3.rows.1 hrb (by omega) (by omega) (fun _ _ q4 m4 d4 r4 => ⟨_, rfl, ?_⟩) (fun h => absurd hsm h) (fun _ h => absurd hfit h)
        refine after q4 A (B ++ (framesT true [] rs.length l[i].2.2.1).1.flatten) (rs ++ l[i].2.2.1) 0 ⟨M3.step m4 (by simp), x3.mv m4 (by simp) (by simp), (b.xr.mv m3 (by simp)).mv m4 (by simp), ?_, d4, j3.mv m4 (by simp) (by simp) (by simp), r4, ?_, ?_⟩ ((lent.mv m3 (by simp)).mv m4 (by simp))
        · rw [← List.append_assoc]; exact d3.mv m4 (by simp) (by simp)
        · rw [← List.append_assoc]
          intro z hz
          rcases List.mem_append.1 hz with hz | hz
          · exact b.by_ z hz
          · exact framesT_byte true _ _ _ hrb z hz
        · have := b.sz
          have e1 : total (rs ++ l[i].2.2.1) = total rs + total l[i].2.2.1 := by simp [total]
          have e2 : (framesT true [] rs.length l[i].2.2.1).1.flatten.length = 36 * l[i].2.2.1.length + total l[i].2.2.1 := htot
          have e3 : (A ++ (B ++ (framesT true [] rs.length l[i].2.2.1).1.flatten)).length = (A ++ B).length + (framesT true [] rs.length l[i].2.2.1).1.flatten.length := by rw [← List.append_assoc, List.length_append]
          have e4 : (rs ++ l[i].2.2.1).length = rs.length + l[i].2.2.1.length := List.length_append
          rw [e3, e4, e1, e2]
          omega
      · rw [hfr] at x3
        refine ⟨loadK_cells (rc.mv m3 (by simp)) (k := .slice) (j := 2) w rfl rfl rfl, ?_⟩
        have M3 := b.m.step m3 (by simp)
        have hw3 := hw.mv m3 (by simp)
        refine rjPut_spec (d := 0) (by decide) (by decide) (by decide) (by decide) (b.xr.mv m3 (by simp)) (b.dr.mv m3 (by simp) (by simp)) (b.r.mv m3 (by simp) (by simp) (by simp)) w l[i].2.2.1 hw3.rows.1 hrb (by omega) (by omega) (fun _ h => absurd h hfit) (fun h => absurd hsm h) (fun _ _ q4 m4 => ⟨_, rfl, ?_⟩)
        refine after q4 A B rs 3 ⟨M3.step m4 (by simp), x3.mv m4 (by simp) (by simp), (b.xr.mv m3 (by simp)).mv m4 (by simp), (b.dk.mv m3 (by simp) (by simp)).mv m4 (by simp) (by simp), (b.dr.mv m3 (by simp) (by simp)).mv m4 (by simp) (by simp), (b.j.mv m3 (by simp) (by simp) (by simp)).mv m4 (by simp) (by simp) (by simp), (b.r.mv m3 (by simp) (by simp) (by simp)).mv m4 (by simp) (by simp) (by simp), b.by_, b.sz⟩ ((lent.mv m3 (by simp)).mv m4 (by simp))
    rw [if_neg (by simpa using h0)]
    by_cases h1 : l[i].1 % 4 = 1
    · rw [if_pos (by simpa using h1)]
      refine jSync_spec (by decide) b.j b.dk fun q3 m3 d3 => ⟨_, rfl, ?_⟩
      obtain ⟨sr, br, rr⟩ := b.r.mv m3 (by simp) (by simp) (by simp)
      rw [derefK_some, fldK_some, loadK_C br]
      refine ⟨_, rfl, ?_⟩
      refine RefSync_spec (by decide) (b.dr.mv m3 (by simp) (by simp)) fun q4 m4 d4 => ⟨(), rfl, ?_⟩
      refine hJ _ _ ⟨pj, pr, A ++ B, [], rs, q4, by simp, rfl, ⟨(b.m.step m3 (by simp)).step m4 (by simp), (b.x.mv m3 (by simp) (by simp)).mv m4 (by simp) (by simp), (b.xr.mv m3 (by simp)).mv m4 (by simp), ?_, d4, (b.j.mv m3 (by simp) (by simp) (by simp)).mv m4 (by simp) (by simp) (by simp), ⟨sr, br.mv m4 (by simp), rr.mv m4 (by simp) (by simp)⟩, ?_, ?_⟩, (lent.mv m3 (by simp)).mv m4 (by simp)⟩
      · rw [List.append_nil]; exact d3.mv m4 (by simp) (by simp)
      · rw [List.append_nil]; exact b.by_
      · rw [List.append_nil]; exact b.sz
    rw [if_neg (by simpa using h1)]
    by_cases h2 : l[i].1 % 4 = 2
    · rw [if_pos (by simpa using h2)]
      refine (hl0 q2 b.m).idx (sizeDeed26.trans rfl) (by decide) hlt fun b1 o1 cs rc lay => ?_
      obtain ⟨w, rfl, hw, ha, hnum⟩ := LayC.deed lay
      rw [fldK_some]
      refine loadK_cells rc (k := .int .i64) (j := 1) l[i].2.1 rfl rfl ?_
      obtain ⟨f1, f2⟩ := fall26 A B l[i].2.1
      refine Fall_spec (by decide) b.dk l[i].2.1 fun q3 m3 d3 => ⟨_, rfl, ?_⟩
      rw [f2, f1] at d3
      obtain ⟨sr, br, rr⟩ := b.r.mv m3 (by simp) (by simp) (by simp)
      rw [derefK_some, fldK_some]
      refine (hl0 q3 (b.m.step m3 (by simp))).idx (sizeDeed26.trans rfl) (by decide) hlt fun b1 o1 cs rc lay => ?_
      obtain ⟨w, rfl, hw, ha, hnum⟩ := LayC.deed lay
      rw [fldK_some]
      rw [loadK_C br]
      refine ⟨_, rfl, ?_⟩
      refine loadK_cells rc (k := .int .i64) (j := 1) l[i].2.1 rfl rfl ?_
      refine RefFall_spec (by decide) (b.dr.mv m3 (by simp) (by simp)) l[i].2.1 fun q4 m4 d4 => ⟨(), rfl, ?_⟩
      have d3' := d3.mv m4 (by simp) (by simp)
      generalize hA : A ++ B.take (min l[i].2.1.toNat B.length) = A' at d3' d4
      have hA' : ∀ z ∈ A' ++ [], isByte z := by
        rw [List.append_nil, ← hA]
        intro z hz
        rcases List.mem_append.1 hz with hz | hz
        · exact b.by_ z (List.mem_append_left _ hz)
        · exact b.by_ z (List.mem_append_right _ (List.mem_of_mem_take hz))
      refine openBoth ((b.m.step m3 (by simp)).step m4 (by simp)) ((b.x.mv m3 (by simp) (by simp)).mv m4 (by simp) (by simp)) ((b.xr.mv m3 (by simp)).mv m4 (by simp)) (by rw [List.append_nil]; exact d3') d4 hA' fun pj2 q5 hopen m5 => ?_
      replace br := (br.mv m4 (by simp)).mv m5 (by simp)
      try dsimp only
      rw [derefK_some, fldK_some, loadK_C br]
      refine ⟨_, rfl, ?_⟩
      refine hopen fun pr2 q6 A2 rs2 m6 b6 => ?_
      exact hJ _ _ ⟨pj2, pr2, A2, [], rs2, q6, rfl, rfl, b6, ((lent.mv m3 (by simp)).mv m4 (by simp)).mv m6 (by simp)⟩
    rw [if_neg (by simpa using h2)]
    have h3 : l[i].1 % 4 = 3 := by omega
    rw [if_pos (by simpa using h3)]
    refine openBoth b.m b.x b.xr b.dk b.dr b.by_ fun pj2 q5 hopen m5 => ?_
    obtain ⟨sr, br, rr⟩ := b.r
    replace br := br.mv m5 (by simp)
    try dsimp only
    rw [derefK_some, fldK_some, loadK_C br]
    refine ⟨_, rfl, ?_⟩
    refine hopen fun pr2 q6 A2 rs2 m6 b6 => ?_
    exact hJ _ _ ⟨pj2, pr2, A2, [], rs2, q6, rfl, rfl, b6, lent.mv m6 (by simp)⟩
  rintro _ _ ⟨pj2, pr2, A2, B2, rs2, q3, rfl, rfl, b3, lent3⟩
  try dsimp only
  rw [if_neg (by simp), if_neg (by simp)]
  refine (hl0 q3 b3.m).idx (sizeDeed26.trans rfl) (by decide) hlt fun b1 o1 cs rc lay => ?_
  obtain ⟨w3, rfl, hw3, ha3, hnum3⟩ := LayC.deed lay
  rw [fldK_some]
  refine loadK_cells rc (k := .slice) (j := 2) w3 rfl rfl ?_
  refine KeptByteRows_C s2 w3 l[i].2.2.1 lent3 hw3.rows.1 (by omega) (fun x hx => by have := hsm x hx; omega) ⟨_, rfl, ?_⟩
  try dsimp only
  rw [if_neg (by simp)]
  refine (hl0 q3 b3.m).idx (sizeDeed26.trans rfl) (by decide) hlt fun b1 o1 cs rc lay => ?_
  obtain ⟨w4, rfl, hw4, ha4, hnum4⟩ := LayC.deed lay
  rw [fldK_some]
  refine loadK_cells rc (k := .int .i64) (j := 1) l[i].2.1 rfl rfl ?_
  refine same26_spec b3.j b3.dk b3.r b3.dr (by have := b3.sz; have := b3.len; omega) b3.small _ fun q4 m4 => ⟨_, rfl, ?_⟩
  try dsimp only
  rw [if_neg (by simp), wrapSucc (by omega)]
  exact hX _ _ ⟨i + 1, pj2, pr2, A2, B2, rs2, q4, by omega, rfl, rfl, b3.step m4 (by simp)⟩ (by simp; omega)

end Go.Proofs.YtgongoaiflphaaaGreat
