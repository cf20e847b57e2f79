/-
  The package journal: frames, and what a file of frames is read as.
-/
import Derived.Test.YtgongoaiflphaaaGreatKDisk
import Derived.Test.YtgongoaiflphaaaGreatKReader
import Derived.Test.YtgongoaiflphaaaGreatKThings
import Derived.Test.YtgongoaiflphaaaGreatFold
import Derived.Test.YtgongoaiflphaaaGreatIter
import Derived.Laws.Strings
set_option linter.unusedSimpArgs false
set_option linter.unusedVariables false
namespace Go.Proofs.YtgongoaiflphaaaGreat
open Go Go.Ev

/-! ### A frame -/
def fileB : List Int := [102, 105, 108, 101]
def sumJ (real : Bool) (asked : List ShThing.T) (bs : List Int) : List Int × List ShThing.T := if real = true then (shaB bs, asked) else (numT ((askT asked (thS bs)).1 : Int), (askT asked (thS bs)).2)
theorem sumJ_tag (real : Bool) (asked : List ShThing.T) (bs : List Int) : (sumJ real asked bs).1.length = 32 ∧ ∀ x ∈ (sumJ real asked bs).1, isByte x := by
  unfold sumJ
  split
  · exact ⟨shaB_length _, shaB_byte _⟩
  · exact ⟨numT_length _, numT_byte _⟩
theorem makSumJ_spec {g : GH} {c k p d : Nat} (hck : ¬ c = k) {real : Bool} {seed : List Int} {asked : List ShThing.T} (x : MakC g c k p real seed asked) (rows : Sl) (xss : List (List Int)) (hr : RowsC g d rows xss) (hby : ∀ xs ∈ xss, ∀ x ∈ xs, isByte x) (ht : total xss ≤ 80000000) (hl : xss.length ≤ 1000000000)
    {R : Value → Heap → Prop} (H : ∀ g' : GH, Mv [k] g g' → MakC g' c k p real seed (sumJ real asked xss.flatten).2 → R (.agg (tagA (sumJ real asked xss.flatten).1)) g'.h) :
    HC Tryz.prog F.tags_Maker_Sum #[.pointer (some ⟨p, 0, none⟩), .slice rows.a rows.n rows.c] R g.h := by
  cases real
  · exact sumTab_spec hck x rows xss hr ht hl H
  · exact sumReal_spec x rows xss hr hby ht (by omega) fun g' m => H g' (m.mono (by simp)) (x.mv m (by simp) (by simp))
def seenB (i : Nat) (b : List Int) : List Int := fileB ++ (fourB (i : Int) ++ b)
def frameT (real : Bool) (A : List ShThing.T) (i : Nat) (b : List Int) : List Int × List ShThing.T := (runB b ++ (sumJ real A (seenB i b)).1, (sumJ real A (seenB i b)).2)
theorem runB_len (b : List Int) : (runB b).length = 4 + b.length := by simp [runB, fourB]; omega
theorem frameT_len (real : Bool) (A : List ShThing.T) (i : Nat) (b : List Int) : (frameT real A i b).1.length = 36 + b.length := by
  simp [frameT, runB_len, (sumJ_tag real A (seenB i b)).1]; omega
theorem byte_wrapJ (n : Int) : isByte (IntKind.u8.wrap n) := by simp only [isByte, IntKind.wrap, IntKind.bits, IntKind.signed]; simp; omega
theorem fourB_byte (n : Int) : ∀ x ∈ fourB n, isByte x := by
  intro x hx
  simp only [fourB, List.mem_cons, List.mem_nil_iff, or_false] at hx
  rcases hx with rfl | rfl | rfl | rfl <;> exact byte_wrapJ _
theorem frameT_byte (real : Bool) (A : List ShThing.T) (i : Nat) {b : List Int} (hb : ∀ x ∈ b, isByte x) : ∀ x ∈ (frameT real A i b).1, isByte x := by
  intro x hx
  unfold frameT runB at hx
  rcases List.mem_append.1 hx with hx | hx
  · rcases List.mem_append.1 hx with hx | hx
    · exact fourB_byte _ x hx
    · exact hb x hx
  · exact (sumJ_tag real A (seenB i b)).2 x hx

theorem fdivs (n : Int) : Int.fdiv n (2 ^ min (Int.toNat 24) (IntKind.bits .i64)) = Int.fdiv n 16777216 ∧ Int.fdiv n (2 ^ min (Int.toNat 16) (IntKind.bits .i64)) = Int.fdiv n 65536 ∧ Int.fdiv n (2 ^ min (Int.toNat 8) (IntKind.bits .i64)) = Int.fdiv n 256 := by
  rw [show (2 : Int) ^ min (Int.toNat 24) (IntKind.bits .i64) = 16777216 from by decide, show (2 : Int) ^ min (Int.toNat 16) (IntKind.bits .i64) = 65536 from by decide, show (2 : Int) ^ min (Int.toNat 8) (IntKind.bits .i64) = 256 from by decide]
  exact ⟨rfl, rfl, rfl⟩
theorem putRun1 {b : List Int} (hb : b.length ≤ 5000) : putAll yes runB (0, []) [b] = (0, runB b) := by
  rw [putAll_cons, putAll_nil]
  unfold putStep
  rw [if_neg (by simp), if_neg (by simp [yes]), if_neg (by simp [runB_len]; omega)]
  rfl
theorem putTag1 {bs t : List Int} (hb : bs.length ≤ 6000) (ht : t.length = 32) : putAll yes tagB (0, bs) [t] = (0, bs ++ t) := by
  rw [putAll_cons, putAll_nil]
  unfold putStep
  rw [if_neg (by simp), if_neg (by simp [yes]), if_neg (by simp [tagB, ht]; omega)]
  rfl
def psiJ (y d : Nat) : Nat → Nat := fun z => if z = y then d else z

set_option maxHeartbeats 1000000 in
theorem frame_spec {g : GH} {c k pm d o y1 y2 y3 y4 : Nat} (hy : [c, k, d, o, y1, y2, y3, y4].Nodup) {real : Bool} {seed : List Int} {A : List ShThing.T} (x : MakC g c k pm real seed A) (i : Nat) (s : Sl) (b : List Int) (hr : RdC 1 g d s (b.map byV)) (hs : s.n ≤ s.c) (hl : b.length ≤ 5000) (hby : ∀ x ∈ b, isByte x) {R : Value → Heap → Prop}
    (H : ∀ (s' : Sl) (g' : GH), Mv [k, y1, y2, y3, y4] g g' → MakC g' c k pm real seed (frameT real A i b).2 → OwnC T.uint8 1 g' o s' ((frameT real A i b).1.map byV) → R (.slice s'.a s'.n s'.c) g'.h) :
    HC Tryz.prog F.journal_smith_frame #[.agg #[.pointer (some ⟨pm, 0, none⟩)], .int .i64 (i : Int), .slice s.a s.n s.c] R g.h := by
  refine journal_smith_frame.calls (b2 := s) ?_
  unfold journal_smith_frame.body
  simp only [List.nodup_cons, List.mem_cons, List.mem_nil_iff, or_false, not_or, List.nodup_nil, not_false_eq_true, and_true] at hy
  obtain ⟨⟨n1, n2, n3, n4, n5, n6, n7⟩, ⟨n8, n9, n10, n11, n12, n13⟩, ⟨n14, n15, n16, n17, n18⟩, ⟨n19, n20, n21, n22⟩, ⟨n23, n24, n25⟩, ⟨n26, n27⟩, n28⟩ := hy
  have m := Mv.refl [k, y1, y2, y3, y4] g
  obtain ⟨f1, f2, f3⟩ := fdivs (i : Int)
  rw [f1, f2, f3]
  refine new_C g y1 fun ps q1 m1 bs => ?_
  replace m := m.step m1 (by simp)
  refine ⟨by decide, by decide, by decide, ?_⟩
  refine newSl_C q1 d rfl fun s2 q2 m2 o2 hn2 hc2 => ?_
  replace m := m.step m2 (by simp)
  refine codecNew_spec q2 y3 y4 fun pw q3 m3 w => ⟨_, rfl, ?_⟩
  replace m := m.step m3 (by simp)
  refine newSl_C q3 d rfl fun s4 q4 m4 o4 hn4 hc4 => ?_
  replace m := m.step m4 (by simp)
  have hr4 := (((hr.mv m1 (by simp)).mv m2 (by simp)).mv m3 (by simp)).mv m4 (by simp)
  refine wRun_to n28 (by simpa using n17) (by simpa using n18) (w.mv m4 (by simp) (by simp)) s4 [b] (RowsC.one o4.rd hr4 hs) (by simpa using (show b.length ≤ 90000000 by omega)) (by simp) (putRun1 hl) fun q5 m5 w => ⟨_, rfl, ?_⟩
  replace m := m.step m5 (by simp)
  have bs5 := (((bs.mv m2 (by simp)).mv m3 (by simp)).mv m4 (by simp)).mv m5 (by simp [n24, n25])
  have hr5 := hr4.mv m5 (by simp [n17, n18])
  have o25 := ((o2.mv m3 (by simp)).mv m4 (by simp)).mv m5 (by simp [n17, n18])
  try dsimp only
  rw [fldK_some, loadK_C bs5]
  refine ⟨_, rfl, ?_⟩
  refine newSl_C q5 y2 rfl fun s6 q6 m6 o6 hn6 hc6 => ?_
  replace m := m.step m6 (by simp)
  refine convRd (e := T.uint8) (by kernel_rfl) (by kernel_rfl) o6 (by simp) fun q7 m7 r7 k7 => ?_
  replace m := m.step m7 (by simp)
  refine newSl_C q7 d rfl fun s8 q8 m8 o8 hn8 hc8 => ?_
  replace m := m.step m8 (by simp)
  have x8 := x.mv m
  have r8 := r7.mv m8 (by simp)
  have hr8 := (k7 _ _ _ (hr5.mv m6 (by simp))).mv m8 (by simp)
  have o28 := (k7 _ _ _ (o25.mv m6 (by simp)).rd).mv m8 (by simp)
  replace w := ((w.mv m6 (by simp) (by simp)).mv m7 (by simp [Ne.symm n26]) (by simp [Ne.symm n27])).mv m8 (by simp) (by simp)
  have x8 : MakC q8 c k pm real seed A := (((((((x.mv m1 (by simp) (by simp)).mv m2 (by simp) (by simp)).mv m3 (by simp) (by simp)).mv m4 (by simp) (by simp)).mv m5 (by simp [n6, n7]) (by simp [n12, n13])).mv m6 (by simp) (by simp)).mv m7 (by simp [n5]) (by simp [n11])).mv m8 (by simp) (by simp)
  have hfl : [fileB, fourB (i : Int), b].flatten = seenB i b := by simp [seenB]
  have rows : RowsC (GH.fold q8 (psiJ y2 d)) d s8 [fileB, fourB (i : Int), b] := by
    have e1 : psiJ y2 d y2 = d := if_pos rfl
    have e2 : psiJ y2 d d = d := by unfold psiJ; split <;> rfl
    refine .of (sls := [s6, s2, s]) (foldRd o8.rd _ e2) rfl fun j sl xs h1 h2 => ?_
    rcases j with _ | _ | _ | j
    · simp at h1 h2; subst h1 h2; exact ⟨foldRd r8 _ e1, by omega⟩
    · simp at h1 h2; subst h1 h2; exact ⟨foldRd o28 _ e2, by omega⟩
    · simp at h1 h2; subst h1 h2; exact ⟨foldRd hr8 _ e2, hs⟩
    · simp at h1
  refine makSumJ_spec (g := GH.fold q8 (psiJ y2 d)) n1 (foldMak x8 _ (by unfold psiJ; rw [if_neg n5]) (by unfold psiJ; rw [if_neg n11])) s8 _ rows (fun xs hx => by
    simp only [List.mem_cons, List.mem_nil_iff, or_false] at hx
    rcases hx with rfl | rfl | rfl
    · simp [fileB, isByte]
    · exact fourB_byte _
    · exact hby) (by simp [total, fileB, fourB]; omega) (by simp) fun q9 m9 x9 => ⟨_, rfl, ?_⟩
  rw [hfl] at x9 ⊢
  have hun : ∀ z t : Nat, ¬ t = d → psiJ y2 d z = t → z = t := by
    intro z t ht h
    unfold psiJ at h
    split at h
    · exact absurd h.symm ht
    · exact h
  have M9 : Mv [k] q8 (q8.via q9 id) := unfoldMv m9 fun z hz => by
    simp only [List.mem_singleton] at hz ⊢
    exact hun z k n8 hz
  have x9' := unfoldMak m9 x9 (fun z => hun z c n2) (fun z => hun z k n8)
  replace w := w.mv M9 (by simpa using Ne.symm n12) (by simpa using Ne.symm n13)
  replace m := m.step M9 (by simp)
  show opK _ _ _ _ (q8.via q9 id).h
  obtain ⟨tl, tb⟩ := sumJ_tag real A (seenB i b)
  refine buildTag_C (q8.via q9 id) y1 tl tb fun s10 q10 m10 o10 => ?_
  replace m := m.step m10 (by simp)
  refine wTag_to n28 (by simpa using n24) (by simpa using n25) (w.mv m10 (by simp) (by simp)) s10 _ o10 (by simp) (putTag1 (by rw [runB_len]; omega) tl) fun q11 m11 w => ⟨_, rfl, ?_⟩
  replace m := m.step m11 (by simp)
  refine wOut_spec o w (fun _ s12 q12 m12 o12 => ⟨(s12, 0), rfl, ?_⟩) (fun h => absurd rfl h)
  exact H s12 q12 (m.step m12 (by simp)) (((x9'.mv m10 (by simp) (by simp)).mv m11 (by simp [n6, n7]) (by simp [n12, n13])).mv m12 (by simp) (by simp)) o12

/-! ### Bytes at a beginning -/
theorem equalB_spec {g : GH} {c d : Nat} (a b : Sl) (xs ys : List Int) (ra : RdC 1 g c a (xs.map byV)) (rb : RdC 1 g d b (ys.map byV)) (hx : ∀ x ∈ xs, isByte x) (hy : ∀ y ∈ ys, isByte y) {R : Value → Heap → Prop} (H : R (.bool (decide (xs = ys))) g.h) :
    HC Tryz.prog F.bytes_Equal #[.slice a.a a.n a.c, .slice b.a b.n b.c] R g.h := by
  refine bytes_Equal.calls (a0 := a) (b1 := b) ?_
  unfold bytes_Equal.body
  refine toStr_C (e := T.uint8) (by kernel_rfl) (by kernel_rfl) (by kernel_rfl) ra ?_
  refine toStr_C (e := T.uint8) (by kernel_rfl) (by kernel_rfl) (by kernel_rfl) rb ?_
  have e : ((strOf xs).toList == (strOf ys).toList) = decide (xs = ys) := by
    rw [Bool.eq_iff_iff, beq_iff_eq, decide_eq_true_iff, ByteArray.toList_eq, ByteArray.toList_eq]
    constructor
    · intro h
      refine strOf_inj hx hy ?_
      have : (strOf xs).data = (strOf ys).data := by
        apply Array.toList_inj.1; exact h
      cases h1 : strOf xs; cases h2 : strOf ys
      rw [h1, h2] at this
      exact congrArg _ this
    · rintro rfl; rfl
  rw [e]
  exact H
theorem cutPrefix_spec {g : GH} {c d : Nat} (s p : Sl) (bs ps : List Int) (rs : RdC 1 g c s (bs.map byV)) (hs : s.n ≤ s.c) (rp : RdC 1 g d p (ps.map byV)) (hx : ∀ x ∈ bs, isByte x) (hy : ∀ y ∈ ps, isByte y) {R : Value → Heap → Prop}
    (H1 : bs.take ps.length = ps → ps.length ≤ bs.length → ∀ s' : Sl, RdC 1 g c s' ((bs.drop ps.length).map byV) → s'.n ≤ s'.c → R (.tuple #[slV s', .bool true]) g.h) (H2 : ¬ bs.take ps.length = ps → R (.tuple #[slV s, .bool false]) g.h) :
    HC Tryz.prog F.bytes_CutPrefix #[.slice s.a s.n s.c, .slice p.a p.n p.c] R g.h := by
  refine bytes_CutPrefix.calls (s0 := s) (prefix1 := p) ?_
  unfold bytes_CutPrefix.body
  have hn := rs.len
  have hm := rp.len
  rw [List.length_map] at hn hm
  have has : HC Tryz.prog F.bytes_HasPrefix #[.slice s.a s.n s.c, .slice p.a p.n p.c] (fun v h => v = .bool (decide (bs.take ps.length = ps)) ∧ h = g.h) g.h := by
    refine bytes_HasPrefix.calls (s0 := s) (prefix1 := p) ?_
    unfold bytes_HasPrefix.body
    by_cases hge : (s.n : Int) ≥ (p.n : Int)
    · rw [if_pos (by simpa using hge)]
      refine slice_upto (n := p.n) rfl (by omega) ?_
      have r0 := (rs.drop (n := 0) (sz := sizeOfT Tryz.prog T.uint8) (by kernel_rfl) (by omega) hs).take (n := p.n - 0) (k := s.c - 0) (by simp; omega)
      rw [List.drop_zero, ← List.map_take, Nat.sub_zero] at r0
      refine equalB_spec _ _ _ _ r0 rp (fun x h => hx x (List.mem_of_mem_take h)) hy ⟨_, rfl, ?_⟩
      exact ⟨by rw [hm, Nat.sub_zero], rfl⟩
    · rw [if_neg (by simpa using hge)]
      refine ⟨?_, rfl⟩
      congr 1
      symm
      rw [decide_eq_false_iff_not]
      intro h
      have := congrArg List.length h
      rw [List.length_take] at this
      omega
  refine has.mono ?_
  rintro v h' ⟨rfl, rfl⟩
  refine ⟨_, rfl, ?_⟩
  try dsimp only
  by_cases he : bs.take ps.length = ps
  · rw [if_neg (by simp [he])]
    have hle : ps.length ≤ bs.length := by
      have := congrArg List.length he
      rw [List.length_take] at this; omega
    refine slice_from (n := p.n) rfl (by omega) hs ?_
    have r0 := rs.drop (n := p.n) (sz := sizeOfT Tryz.prog T.uint8) (by kernel_rfl) (by rw [List.length_map]; omega) hs
    rw [← List.map_drop, hm] at r0
    have := H1 he hle _ r0 (by show s.n - ps.length ≤ s.c - ps.length; omega)
    rw [hm]
    exact this
  · rw [if_pos (by simp [he])]
    exact H2 he

/-! ### What a file is read as -/
def readJ (real : Bool) : Nat → List ShThing.T → Nat → List Int → List (List Int) × List Int × List ShThing.T
  | 0, A, _, bs => ([], bs, A)
  | n + 1, A, i, bs =>
    if (runR (bs.take 4100) (false, 0)).2.2 = 0 then ([], bs, A)
    else if bs.take (frameT real A i (runR (bs.take 4100) (false, 0)).1).1.length = (frameT real A i (runR (bs.take 4100) (false, 0)).1).1 then
      ((runR (bs.take 4100) (false, 0)).1 :: (readJ real n (frameT real A i (runR (bs.take 4100) (false, 0)).1).2 (i + 1) (bs.drop (frameT real A i (runR (bs.take 4100) (false, 0)).1).1.length)).1,
        (readJ real n (frameT real A i (runR (bs.take 4100) (false, 0)).1).2 (i + 1) (bs.drop (frameT real A i (runR (bs.take 4100) (false, 0)).1).1.length)).2)
    else ([], bs, (frameT real A i (runR (bs.take 4100) (false, 0)).1).2)
theorem readJ_stop {real : Bool} {n : Nat} {A : List ShThing.T} {i : Nat} {bs : List Int} (h : (runR (bs.take 4100) (false, 0)).2.2 = 0) : readJ real n A i bs = ([], bs, A) := by
  cases n with
  | zero => rfl
  | succ n => rw [readJ, if_pos h]
theorem readJ_len (real : Bool) : ∀ (n : Nat) (A : List ShThing.T) (i : Nat) (bs : List Int), (readJ real n A i bs).2.1.length ≤ bs.length
  | 0, A, i, bs => Nat.le_refl _
  | n + 1, A, i, bs => by
    rw [readJ]
    split
    · exact Nat.le_refl _
    split
    · refine Nat.le_trans (readJ_len real n _ _ _) ?_
      rw [List.length_drop]; omega
    · exact Nat.le_refl _

set_option maxHeartbeats 2000000 in
theorem frames1_spec {g : GH} {c k pm d kb ks ke o y1 y2 y3 y4 y5 y6 pb ps l : Nat} (hy : [c, k, d, kb, ks, ke, o, y1, y2, y3, y4, y5, y6].Nodup) {real : Bool} {seed : List Int} {A0 : List ShThing.T} (x : MakC g c k pm real seed A0) (s0 : Sl) (bb : BlkC g kb pb #[slV s0] T.sl_uint8) (bsm : BlkC g ks ps #[.pointer (some ⟨pm, 0, none⟩)] T.journal_smith)
    (bs : List Int) (rd0 : RdC 1 g d s0 (bs.map byV)) (hs0 : s0.n ≤ s0.c) (hl : bs.length ≤ 100000000) (hby : ∀ x ∈ bs, isByte x) (K : List Nat) (hK1 : c ∉ K) (hK2 : k ∉ K) (hK3 : d ∉ K) (hK4 : kb ∉ K) (hK5 : ks ∉ K)
    (I : List (List Int) → List Int → GH → Prop) (stab : ∀ rs left q q', I rs left q → Mv [k, kb, y1, y2, y3, y4, y5, y6] q q' → I rs left q')
    (round : ∀ rs lft b left (q : GH) (sl sb : Sl), I rs lft q → rs.length < bs.length → left.length ≤ bs.length → RdC 1 q d sl (left.map byV) → OwnC T.uint8 1 q ke sb (b.map byV) → YC Tryz.prog l #[slV sl, slV sb] (fun v h' => v = .bool true ∧ ∃ q' : GH, h' = q'.h ∧ Mv K q q' ∧ I (rs ++ [b]) left q') q.h)
    (h0 : I [] bs g) {R : Value → Heap → Prop}
    (H : ∀ q : GH, MakC q c k pm real seed (readJ real bs.length A0 0 bs).2.2 → I (readJ real bs.length A0 0 bs).1 (readJ real bs.length A0 0 bs).2.1 q → R (.tuple #[]) q.h) :
    HC Tryz.prog F.journal_smith_frames_1 #[.func (.yield l) #[] #[], .pointer (some ⟨pb, 0, none⟩), .pointer (some ⟨ps, 0, none⟩)] R g.h := by
  refine journal_smith_frames_1.calls ?_
  unfold journal_smith_frames_1.body
  have hyo := hy
  simp only [List.nodup_cons, List.mem_cons, List.mem_nil_iff, or_false, not_or, List.nodup_nil, not_false_eq_true, and_true] at hy
  obtain ⟨⟨a1, a2, a3, a4, a5, a6, a7, a8, a9, a10, a11, a12⟩, ⟨b1, b2, b3, b4, b5, b6, b7, b8, b9, b10, b11⟩, ⟨c1, c2, c3, c4, c5, c6, c7, c8, c9, c10⟩, ⟨d1, d2, d3, d4, d5, d6, d7, d8, d9⟩, ⟨e1, e2, e3, e4, e5, e6, e7, e8⟩, ⟨f1, f2, f3, f4, f5, f6, f7⟩, ⟨g1, g2, g3, g4, g5, g6⟩, ⟨i1, i2, i3, i4, i5⟩, ⟨j1, j2, j3, j4⟩, ⟨k1, k2, k3⟩, ⟨l1, l2⟩, m1⟩ := hy
  refine loopW_ruleM (fun n st h' => ∃ (rs : List (List Int)) (left : List Int) (A : List ShThing.T) (s : Sl) (q : GH), st = (rs.length : Int) ∧ h' = q.h ∧ rs.length + n = bs.length ∧ left.length ≤ n ∧ left.length ≤ bs.length ∧ (∀ x ∈ left, isByte x) ∧ MakC q c k pm real seed A ∧ BlkC q kb pb #[slV s] T.sl_uint8 ∧ BlkC q ks ps #[.pointer (some ⟨pm, 0, none⟩)] T.journal_smith ∧ RdC 1 q d s (left.map byV) ∧ s.n ≤ s.c ∧ I rs left q ∧
      readJ real bs.length A0 0 bs = (rs ++ (readJ real n A rs.length left).1, (readJ real n A rs.length left).2)) bs.length
    ⟨[], bs, A0, s0, g, rfl, rfl, by simp, Nat.le_refl _, Nat.le_refl _, hby, x, bb, bsm, rd0, hs0, h0, by simp⟩ ?_
  clear x bb bsm rd0 hs0 h0
  rintro X n _ _ ⟨rs, left, A, s, q, rfl, rfl, hn, hln, hlb, hby, x, bb, bsm, rd, hs, hI, he⟩ hX
  try dsimp only
  rw [loadK_C bb]
  refine ⟨s, rfl, ?_⟩
  rw [loadK_C bb]
  refine ⟨s, rfl, ?_⟩
  have hsn := rd.len
  rw [List.length_map] at hsn
  have hmin : (if 4100 < (s.n : Int) then 4100 else (s.n : Int)) = ((min 4100 left.length : Nat) : Int) := by split <;> omega
  rw [hmin]
  refine slice_upto (n := min 4100 left.length) rfl (by omega) ?_
  have r0 := (rd.drop (n := 0) (sz := sizeOfT Tryz.prog T.uint8) (by kernel_rfl) (by omega) hs).take (n := min 4100 left.length - 0) (k := s.c - 0) (by simp; omega)
  have et : left.take (min 4100 left.length) = left.take 4100 := by
    rcases Nat.le_total 4100 left.length with h | h
    · rw [Nat.min_eq_left h]
    · rw [Nat.min_eq_right h, List.take_length, List.take_of_length_le h]
  simp only [List.drop_zero, Nat.sub_zero, ← List.map_take, et] at r0
  have hxl : (left.take 4100).length = min 4100 left.length := by rw [List.length_take]
  have hxb : ∀ z ∈ left.take 4100, isByte z := fun z h => hby z (List.mem_of_mem_take h)
  refine read_spec q y5 y6 _ (left.take 4100) r0 (by omega) hxb fun pr q1 u1 rdr => ⟨_, rfl, ?_⟩
  refine rRun_spec ke m1 rdr fun sb q2 u2 rdr ob => ⟨_, rfl, ?_⟩
  have hIx := hI
  have hout : ∀ z ∈ (runR (left.take 4100) (false, 0)).1, isByte z := runR_byte hxb
  have houtl : (runR (left.take 4100) (false, 0)).1.length ≤ 4100 := by have := runR_len (bs := left.take 4100) (st := (false, 0)); omega
  have hple : (runR (left.take 4100) (false, 0)).2.2 ≤ (left.take 4100).length := runR_le (by simp)
  refine rLeft_spec rdr ⟨_, rfl, ?_⟩
  try dsimp only
  have M : Mv [k, kb, y1, y2, y3, y4, y5, y6] q q2 := (u1.then u2 (M := [y5]) (by simp)).mono (by simp)
  by_cases hp : (runR (left.take 4100) (false, 0)).2.2 = 0
  · rw [if_pos (by simp [hp, hxl])]
    rw [readJ_stop hp] at he
    have x2 : MakC q2 c k pm real seed A := (x.mv u1 (by simp) (by simp)).mv u2 (by simpa using a11) (by simpa using b10)
    refine H q2 (by rw [he]; exact x2) (by rw [he]; simpa using stab _ _ _ _ hI M)
  have hpos : 0 < (left.take 4100).length := by omega
  have hlpos : 0 < left.length := by rw [hxl] at hpos; omega
  obtain ⟨n, rfl⟩ : ∃ n', n = n' + 1 := ⟨n - 1, by omega⟩
  rw [if_neg (by simp; omega)]
  rw [readJ, if_neg hp] at he
  generalize (runR (left.take 4100) (false, 0)).1 = b at ob hout houtl he
  clear rdr
  have bb2 := (bb.mv u1 (by simp)).mv u2 (by simpa using d8)
  have bsm2 := (bsm.mv u1 (by simp)).mv u2 (by simpa using e7)
  have x2 := (x.mv u1 (by simp) (by simp)).mv u2 (by simpa using a11) (by simpa using b10)
  have rd2 := (rd.mv u1 (by simp)).mv u2 (by simpa using c9)
  rw [loadK_C bb2]
  refine ⟨s, rfl, ?_⟩
  refine loadAgg_whole bsm2 (by kernel_rfl) ?_
  refine frame_spec (c := c) (k := k) (d := ke) (o := o) (y1 := y1) (y2 := y2) (y3 := y3) (y4 := y4) (by
    simp only [List.nodup_cons, List.mem_cons, List.mem_nil_iff, or_false, not_or, List.nodup_nil, not_false_eq_true, and_true]
    exact ⟨⟨a1, a5, a6, a7, a8, a9, a10⟩, ⟨b4, b5, b6, b7, b8, b9⟩, ⟨f1, f2, f3, f4, f5⟩, ⟨g1, g2, g3, g4⟩, ⟨i1, i2, i3⟩, ⟨j1, j2⟩, k1⟩) x2 rs.length sb b ob.rd ob.cap (by omega) hout fun sf q3 u3 x3 of => ⟨_, rfl, ?_⟩
  have fl := frameT_len real A rs.length b
  have fb := frameT_byte real A rs.length hout
  generalize frameT real A rs.length b = fr at x3 of fl fb he
  have bb3 := bb2.mv u3 (by simp [Ne.symm b2, d4, d5, d6, d7])
  have bsm3 := bsm2.mv u3 (by simp [Ne.symm b3, e3, e4, e5, e6])
  have rd3 := rd2.mv u3 (by simp [Ne.symm b1, c5, c6, c7, c8])
  have ob3 := ob.mv u3 (by simp [Ne.symm b4, f2, f3, f4, f5])
  refine ⟨stillK_C bb3 rfl, ?_⟩
  refine cutPrefix_spec s sf left fr.1 rd3 hs of.rd hby fb (fun hcut hle s' r' hs' => ⟨(s', true), rfl, ?_⟩) (fun hcut => ⟨(s, false), rfl, ?_⟩)
  rotate_left
  · try dsimp only
    rw [if_pos (by simp)]
    rw [if_neg hcut] at he
    exact H q3 (by rw [he]; exact x3) (by rw [he]; simpa using stab _ _ _ _ (stab _ _ _ _ hI M) (u3.mono (by simp)))
  try dsimp only
  rw [if_neg (by simp)]
  rw [if_pos hcut] at he
  have hdl : (left.drop fr.1.length).length ≤ n := by rw [List.length_drop]; omega
  refine callV_yield ((round rs left b (left.drop fr.1.length) q3 s' sb (stab _ _ _ _ (stab _ _ _ _ hI M) (u3.mono (by simp))) (by omega) (by omega) r' ob3).mono ?_)
  rintro v h' ⟨rfl, q4, rfl, u4, hI4⟩
  refine ⟨true, rfl, ?_⟩
  rw [if_neg (by simp)]
  refine store_C (bb3.mv u4 hK4) (by simp) rfl fun q5 u5 bb5 => ?_
  rw [wrapSucc (by omega)]
  refine hX n _ _ ⟨rs ++ [b], left.drop fr.1.length, fr.2, s', q5, by simp, rfl, by simp; omega, hdl, by omega, fun z h => hby z (List.mem_of_mem_drop h), (x3.mv u4 hK1 hK2).mv u5 (by simpa using a3) (by simpa using b2), bb5, (bsm3.mv u4 hK5).mv u5 (by simpa using Ne.symm d1), (r'.mv u4 hK3).mv u5 (by simpa using c1), hs', stab _ _ _ _ hI4 (u5.mono (by simp)), ?_⟩ (by omega)
  rw [he]
  simp

/-! ### A journal in memory -/
/-- Rows whose heads are of one colour, and they of another one. -/
def Row2C (g : GH) (kh ke : Nat) (s : Sl) (rs : List (List Int)) : Prop :=
  ∃ sls : List Sl, OwnC T.sl_uint8 1 g kh s (sls.map slV) ∧ sls.length = rs.length ∧ ∀ (i : Nat) (sl : Sl) (xs : List Int), sls[i]? = some sl → rs[i]? = some xs → RdC 1 g ke sl (xs.map byV) ∧ sl.n ≤ sl.c
theorem Row2C.mv {K : List Nat} {g g' : GH} {kh ke : Nat} {s : Sl} {rs : List (List Int)} (r : Row2C g kh ke s rs) (m : Mv K g g') (h1 : kh ∉ K) (h2 : ke ∉ K) : Row2C g' kh ke s rs := by
  obtain ⟨sls, o, l, h⟩ := r
  exact ⟨sls, o.mv m h1, l, fun i sl xs a b => ⟨(h i sl xs a b).1.mv m h2, (h i sl xs a b).2⟩⟩
theorem Row2C.nil (g : GH) (kh ke : Nat) : Row2C g kh ke ⟨none, 0, 0⟩ [] := ⟨[], OwnC.nil _ _ _ _, rfl, by simp⟩
theorem Row2C.len {g : GH} {kh ke : Nat} {s : Sl} {rs : List (List Int)} (r : Row2C g kh ke s rs) : s.n = rs.length := by
  obtain ⟨sls, o, l, h⟩ := r
  have := o.len
  simp at this; omega
theorem Row2C.idx {g : GH} {kh ke : Nat} {s : Sl} {rs : List (List Int)} {sz i : Nat} {K : Sl → Prop} (r : Row2C g kh ke s rs) (hsz : sz = 1) (hi : i < rs.length)
    (H : ∀ sl : Sl, RdC 1 g ke sl ((rs[i]'hi).map byV) → sl.n ≤ sl.c → K sl) : idxK s (i : Int) sz (fun a => loadK .slice g.h (some a) K) := by
  obtain ⟨sls, h1, h2, h3⟩ := r
  have hi2 : i < sls.length := by omega
  obtain ⟨h4, h5⟩ := h3 i _ _ (List.getElem?_eq_getElem hi2) (List.getElem?_eq_getElem hi)
  exact idxLoadN h1.rd.rd hsz (k := .slice) (sls[i]'hi2) (by rw [List.getElem?_map, List.getElem?_eq_getElem hi2]; rfl) (H _ h4 h5)
/-- One colour taken for the other. -/
theorem Row2C.fold {g : GH} {kh ke : Nat} {s : Sl} {rs : List (List Int)} (r : Row2C g kh ke s rs) : RowsC (GH.fold g (psiJ ke kh)) kh s rs := by
  obtain ⟨sls, o, l, h⟩ := r
  have e1 : psiJ ke kh ke = kh := if_pos rfl
  have e2 : psiJ ke kh kh = kh := by unfold psiJ; split <;> rfl
  exact ⟨sls, foldRd o.rd _ e2, l, fun i sl xs a b => ⟨foldRd (h i sl xs a b).1 _ e1, (h i sl xs a b).2⟩⟩
theorem Row2C.via {K : List Nat} {g q : GH} {kh ke : Nat} {s : Sl} {rs : List (List Int)} (r : Row2C q kh ke s rs) (m : Mv K g.base q) (h1 : kh ≠ 0) (h2 : ke ≠ 0) (c : Nat) : RowsC (g.via q fun _ => c) c s rs := by
  obtain ⟨sls, o, l, h⟩ := r
  exact ⟨sls, (o.via m h1 fun _ => c).rd, l, fun i sl xs a b => ⟨(h i sl xs a b).1.via m h2 fun _ => c, (h i sl xs a b).2⟩⟩
theorem push2_C {g : GH} {kh ke : Nat} {s sl : Sl} {rs : List (List Int)} {b : List Int} (hd : kh ≠ ke) (r : Row2C g kh ke s rs) (hl : rs.length ≤ 100000000) (rb : RdC 1 g ke sl (b.map byV)) (hc : sl.n ≤ sl.c) {K : Sl → Heap → Prop}
    (H : ∀ (s' : Sl) (g' : GH), Mv [kh] g g' → Row2C g' kh ke s' (rs ++ [b]) → K s' g'.h) :
    newSlK g.h 1 #[.slice sl.a sl.n sl.c] T.sl_uint8 (fun v h => opK Tryz.prog .slice (Builtin.append_ #[T.sl_sl_uint8, T.sl_sl_uint8] T.sl_sl_uint8 #[.slice s.a s.n s.c, .slice v.a v.n v.c]) K h) := by
  refine newSl_C g ke rfl fun s3 q3 m3 o3 hn3 _ => ?_
  obtain ⟨sls, o, l, h⟩ := r
  refine append_C (e := T.sl_uint8) (e2 := T.sl_uint8) (sz := 1) (by_ := 24) (z := .slice none 0 0) (by kernel_rfl) (by kernel_rfl) (by kernel_rfl) rfl (by omega) (o.mv m3 (by simp)) o3.rd.rd (by simp [Value.oneCell']) (by have := o.len; simp at this; omega) fun s4 q4 m4 o4 hn4 _ => ?_
  refine H s4 q4 ((m3.then m4 (M := [kh]) (by simp))) ⟨sls ++ [sl], by simpa using o4, by simp [l], ?_⟩
  intro k sl' xs hk hx
  by_cases hki : k < sls.length
  · rw [List.getElem?_append_left hki] at hk
    rw [List.getElem?_append_left (by omega)] at hx
    exact ⟨((h k sl' xs hk hx).1.mv m3 (by simp)).mv m4 (by simpa using Ne.symm hd), (h k sl' xs hk hx).2⟩
  · have hk' : k = sls.length := by have := (List.getElem?_eq_some_iff.1 hk).1; simp at this; omega
    subst hk'
    rw [List.getElem?_append_right (by omega), Nat.sub_self] at hk
    rw [l, List.getElem?_append_right (by omega), Nat.sub_self] at hx
    simp at hk hx
    subst hk hx
    exact ⟨(rb.mv m3 (by simp)).mv m4 (by simpa using Ne.symm hd), hc⟩

abbrev ptrV (p : Nat) : Value := .pointer (some ⟨p, 0, none⟩)
def JrnC (g : GH) (kj kh ke pj pm pd : Nat) (rs : List (List Int)) : Prop := ∃ s : Sl, BlkC g kj pj #[ptrV pm, ptrV pd, slV s] T.journal_Journal ∧ Row2C g kh ke s rs
theorem JrnC.mv {K : List Nat} {g g' : GH} {kj kh ke pj pm pd : Nat} {rs : List (List Int)} (r : JrnC g kj kh ke pj pm pd rs) (m : Mv K g g') (h0 : kj ∉ K) (h1 : kh ∉ K) (h2 : ke ∉ K) : JrnC g' kj kh ke pj pm pd rs := by
  obtain ⟨s, b, r⟩ := r
  exact ⟨s, b.mv m h0, r.mv m h1 h2⟩
theorem bldSmith (m : Option Addr) (w : World) : (Instr.build T.journal_smith #[(0, .pointer m)]).run Tryz.prog w = .ok (.agg #[.pointer m]) w := by kernel_rfl
theorem bldJournal (m d : Option Addr) (w : World) : (Instr.build T.journal_Journal #[(0, .agg #[.pointer m]), (1, .pointer d)]).run Tryz.prog w = .ok (.agg #[.pointer m, .pointer d, .slice none 0 0]) w := by kernel_rfl

theorem smith_load {g : GH} {kj p : Nat} {a b s : Value} {e : TypeId} (bj : BlkC g kj p #[a, b, s] e) {K : Array Value → Prop} (hK : K #[a]) : loadAggK (sizeOfT Tryz.prog T.journal_smith) g.h (some ⟨p, 0 + 0, none⟩) K := by
  rw [show sizeOfT Tryz.prog T.journal_smith = 1 from by kernel_rfl, loadAggK_C bj]
  exact ⟨by simp, by simpa using hK⟩
theorem smith_still {g : GH} {kj p : Nat} {a b s : Value} {e : TypeId} (bj : BlkC g kj p #[a, b, s] e) : stillAggK (sizeOfT Tryz.prog T.journal_smith) g.h (some ⟨p, 0 + 0, none⟩) #[a] := smith_load bj rfl
/-- The colours that the package's functions use for themselves. -/
abbrev SJ : List Nat := [100, 101, 102, 103, 104, 105, 106, 107, 108, 109, 110, 111, 112, 113, 114]
abbrev okK (l : List Nat) : Prop := l.Nodup ∧ ∀ z ∈ l, 3 ≤ z ∧ z < 100

set_option maxHeartbeats 4000000 in
theorem Open_spec {g : GH} {kq kr kj kh ke pm pd safe : Nat} (hk : okK [kq, kr, kj, kh, ke]) {real : Bool} {seed : List Int} {A : List ShThing.T} (x : MakC g 1 2 pm real seed A) {bs : List Int} (dk : DiskC g kq kr pd safe bs) (hby : ∀ z ∈ bs, isByte z) {R : Value → Heap → Prop}
    (H : ∀ (pj : Nat) (g' : GH), Mv (2 :: kq :: kr :: kj :: kh :: SJ) g g' → MakC g' 1 2 pm real seed (readJ real bs.length A 0 bs).2.2 → DiskC g' kq kr pd (bs.length - (readJ real bs.length A 0 bs).2.1.length) (bs.take (bs.length - (readJ real bs.length A 0 bs).2.1.length)) → JrnC g' kj kh ke pj pm pd (readJ real bs.length A 0 bs).1 → R (.tuple #[ptrV pj, .int .i64 0]) g'.h) :
    HC Tryz.prog F.journal_Open #[ptrV pm, ptrV pd] R g.h := by
  have hle := readJ_len real bs.length A 0 bs
  refine journal_Open.calls ?_
  unfold journal_Open.body
  obtain ⟨hnd, hk3⟩ := hk
  simp only [List.nodup_cons, List.mem_cons, List.mem_nil_iff, or_false, not_or, List.nodup_nil, not_false_eq_true, and_true, forall_eq_or_imp, forall_eq] at hnd hk3
  have hbl : bs.length ≤ 1048576 := by obtain ⟨_, _, _, _, h⟩ := dk; exact h
  have m := Mv.refl (2 :: kq :: kr :: kj :: kh :: SJ) g
  refine makCopy_spec x 100 101 fun p' q1 m1 _ => ⟨_, rfl, ?_⟩
  replace m := m.step m1 (by simp)
  try dsimp only
  rw [if_neg (by simp)]
  refine Write_spec (by omega) (c := 100) (by omega) (by omega) (dk.mv m1 (by simp) (by simp)) ⟨none, 0, 0⟩ [] (RowsC.nil _ _ _ _) (by simp [total]) (by simp) (fun _ q2 m2 dk => ⟨_, rfl, ?_⟩) (fun h => absurd (by simp [total]; omega) h)
  rw [List.flatten_nil, List.append_nil] at dk
  replace m := m.step m2 (by simp)
  try dsimp only
  rw [if_neg (by simp)]
  refine ⟨_, bldSmith _, ⟨_, bldJournal _ _, ?_⟩⟩
  have x2 := (x.mv m1 (by simp) (by simp)).mv m2 (by simp; omega) (by simp; omega)
  refine new_C q2 kj fun pj q3 m3 bj => ?_
  replace m := m.step m3 (by simp)
  rw [show zerosOf Tryz.prog T.p_journal_Journal = #[.pointer none] from by kernel_rfl]
  refine new_C q3 113 fun pc q4 m4 bc => ?_
  replace m := m.step m4 (by simp)
  refine store_C bc (by simp) rfl fun q5 m5 bc => ?_
  replace m := m.step m5 (by simp)
  replace dk := ((dk.mv m3 (by simp) (by simp)).mv m4 (by simp) (by simp)).mv m5 (by simp; omega) (by simp; omega)
  refine Len_spec dk ⟨_, rfl, ?_⟩
  rw [show zerosOf Tryz.prog T.int = #[.int .i64 0] from by kernel_rfl]
  refine new_C q5 112 fun pl q6 m6 bl => ?_
  replace m := m.step m6 (by simp)
  refine store_C bl (by simp) rfl fun q7 m7 bl => ?_
  replace m := m.step m7 (by simp)
  replace bc : BlkC q7 113 pc #[ptrV pj] T.p_journal_Journal := (bc.mv m6 (by simp)).mv m7 (by simp)
  replace bl : BlkC q7 112 pl #[.int .i64 ((bs.length : Nat) : Int)] T.int := bl
  replace bj : BlkC q7 kj pj #[ptrV pm, ptrV pd, slV ⟨none, 0, 0⟩] T.journal_Journal := (((bj.mv m4 (by simp)).mv m5 (by simp; omega)).mv m6 (by simp)).mv m7 (by simp; omega)
  replace dk := (dk.mv m6 (by simp) (by simp)).mv m7 (by simp; omega) (by simp; omega)
  replace x := ((((x2.mv m3 (by simp) (by simp)).mv m4 (by simp) (by simp)).mv m5 (by simp) (by simp)).mv m6 (by simp) (by simp)).mv m7 (by simp) (by simp)
  rw [loadK_C bc]
  refine ⟨_, rfl, ?_⟩
  rw [derefK_some, fldK_some]
  refine smith_load bj ?_
  refine Bytes_spec' q7 102 dk fun sb q8 m8 ob => ⟨_, rfl, ?_⟩
  replace m := m.step m8 (by simp)
  replace bc := bc.mv m8 (by simp)
  replace bl := bl.mv m8 (by simp)
  replace bj := bj.mv m8 (by simp)
  replace dk := dk.mv m8 (by simp) (by simp)
  replace x := x.mv m8 (by simp) (by simp)
  refine ⟨smith_still bj, stillK_C bc rfl, ?_⟩
  have frs : HC Tryz.prog F.journal_smith_frames #[.agg #[ptrV pm], .slice sb.a sb.n sb.c] (fun v h' => ∃ (pb ps : Nat) (q : GH), v = .func (.func F.journal_smith_frames_1) #[] #[ptrV pb, ptrV ps] ∧ h' = q.h ∧ Mv [] q8 q ∧ BlkC q 103 pb #[slV sb] T.sl_uint8 ∧ BlkC q 104 ps #[ptrV pm] T.journal_smith) q8.h := by
    refine journal_smith_frames.calls (b1 := sb) ?_
    unfold journal_smith_frames.body
    refine new_C q8 104 fun ps r1 n1 c1 => ?_
    refine new_C r1 103 fun pb r2 n2 c2 => ?_
    exact ⟨pb, ps, r2, rfl, rfl, n1.step n2 (by simp), c2, c1.mv n2 (by simp)⟩
  refine frs.mono ?_
  rintro _ _ ⟨pb, ps, q9, rfl, rfl, m9, bb, bsm⟩
  refine ⟨_, rfl, ?_⟩
  replace m := m.step m9 (by simp)
  replace bc := bc.mv m9 (by simp)
  replace bl := bl.mv m9 (by simp)
  replace bj := bj.mv m9 (by simp)
  replace dk := dk.mv m9 (by simp) (by simp)
  replace x := x.mv m9 (by simp) (by simp)
  replace ob := ob.mv m9 (by simp)
  dsimp only
  refine rangeK_C q9 110 111 fun rec l q10 m10 ol od hY => ?_
  replace m := m.step m10 (by simp)
  replace bc := bc.mv m10 (by simp)
  replace bl := bl.mv m10 (by simp)
  replace bj := bj.mv m10 (by simp)
  replace dk := dk.mv m10 (by simp) (by simp)
  replace x := x.mv m10 (by simp) (by simp)
  replace ob := ob.mv m10 (by simp)
  replace bb := bb.mv m10 (by simp)
  replace bsm := bsm.mv m10 (by simp)
  show HC Tryz.prog F.journal_smith_frames_1 #[.func (.yield l) #[] #[], ptrV pb, ptrV ps] _ q10.h
  refine frames1_spec (c := 1) (k := 2) (d := 102) (kb := 103) (ks := 104) (ke := ke) (o := 105) (y1 := 106) (y2 := 107) (y3 := 108) (y4 := 109) (y5 := 100) (y6 := 101) (by simp; omega) x sb bb bsm bs ob.rd ob.cap (by omega) hby [110, 112, kh, kj] (by simp; omega) (by simp; omega) (by simp; omega) (by simp; omega) (by simp; omega)
    (fun rs left q => Mv (2 :: kq :: kr :: kj :: kh :: SJ) g q ∧ ObjC q 110 l (loopObj rec .ready none) ∧ ObjC q 111 q9.h.size (.deferred (some [])) ∧ BlkC q 112 pl #[.int .i64 ((left.length : Nat) : Int)] T.int ∧ BlkC q 113 pc #[ptrV pj] T.p_journal_Journal ∧ JrnC q kj kh ke pj pm pd rs ∧ DiskC q kq kr pd safe bs)
    (fun rs left q q' ⟨h1, h2, h3, h4, h5, h6, h7⟩ mm => ⟨h1.step mm (by simp), h2.mv mm (by simp), h3.mv mm (by simp), h4.mv mm (by simp), h5.mv mm (by simp), h6.mv mm (by simp; omega) (by simp; omega) (by simp; omega), h7.mv mm (by simp; omega) (by simp; omega)⟩) ?_ ⟨m, ol, od, bl, bc, ⟨_, bj, Row2C.nil _ _ _⟩, dk⟩ ?_
  · rintro rs lft b left q sl s1 ⟨h1, h2, h3, h4, h5, h6, h7⟩ hrl hll rsl os1
    have hsl := rsl.len
    rw [List.length_map] at hsl
    refine hY (sl, s1) _ q h2 ?_
    dsimp only
    refine begK_C h2 fun q1 n1 ol1 => ?_
    replace h4 := h4.mv n1 (by simp)
    replace h5 := h5.mv n1 (by simp)
    replace h6 := h6.mv n1 (by simp; omega) (by simp; omega) (by simp; omega)
    replace os1 := os1.mv n1 (by simp; omega)
    refine store_C h4 (by simp) rfl fun q2 n2 h4 => ?_
    replace ol1 := ol1.mv n2 (by simp)
    replace h5 := h5.mv n2 (by simp)
    replace h6 := h6.mv n2 (by simp; omega) (by simp; omega) (by simp; omega)
    replace os1 := os1.mv n2 (by simp; omega)
    obtain ⟨sr, hj, hr⟩ := h6
    rw [loadK_C h5]
    refine ⟨_, rfl, ?_⟩
    rw [loadK_C h5]
    refine ⟨_, rfl, ?_⟩
    rw [derefK_some, fldK_some, loadK_C hj]
    refine ⟨sr, rfl, ?_⟩
    refine push2_C (by omega) hr (by omega) os1.rd os1.cap fun s' q3 n3 hr' => ?_
    replace ol1 := ol1.mv n3 (by simp; omega)
    replace h5 := h5.mv n3 (by simp; omega)
    replace h4 := h4.mv n3 (by simp; omega)
    replace hj := hj.mv n3 (by simp; omega)
    refine ⟨stillK_C h5 rfl, ?_⟩
    rw [derefK_some, fldK_some]
    refine store_C hj (by simp) rfl fun q4 n4 hj => ?_
    refine endK_on (ol1.mv n4 (by simp; omega)) fun q5 n5 ol5 => ⟨rfl, q5, rfl, ?_, ?_⟩
    · exact ((((n1.mono (L := [110, 112, kh, kj]) (by simp)).step n2 (by simp)).step n3 (by simp)).step n4 (by simp)).step n5 (by simp)
    · have mm : Mv [110, 112, kh, kj] q q5 := ((((n1.mono (L := [110, 112, kh, kj]) (by simp)).step n2 (by simp)).step n3 (by simp)).step n4 (by simp)).step n5 (by simp)
      refine ⟨?_, ol5, h3.mv mm (by simp; omega), by have := (h4.mv n4 (by simp; omega)).mv n5 (by simp); rw [hsl] at this; exact this, (h5.mv n4 (by simp; omega)).mv n5 (by simp), ⟨s', ?_, (hr'.mv n4 (by simp; omega) (by simp; omega)).mv n5 (by simp; omega) (by simp; omega)⟩, h7.mv mm (by simp; omega) (by simp; omega)⟩
      · exact h1.step mm (by simp)
      · exact hj.mv n5 (by simp; omega)
  · rintro q x ⟨h1, h2, h3, h4, h5, h6, h7⟩
    refine ⟨(), rfl, .inl ⟨q, rfl, h2, fun q' m' => ?_⟩⟩
    replace h1 := h1.step m' (by simp)
    replace h3 := h3.mv m' (by simp)
    replace h4 := h4.mv m' (by simp)
    replace h5 := h5.mv m' (by simp)
    replace h6 := h6.mv m' (by simp; omega) (by simp; omega) (by simp; omega)
    replace h7 := h7.mv m' (by simp; omega) (by simp; omega)
    replace x := x.mv m' (by simp) (by simp)
    rw [loadK_C h4]
    refine ⟨_, rfl, ?_⟩
    refine Len_spec h7 ⟨_, rfl, ?_⟩
    refine ⟨stillK_C h4 rfl, ?_⟩
    rw [wrapI64 (by omega) (by omega)]
    refine Cut_spec (by omega) h7 _ (fun hc q2 n2 h7 => ⟨_, rfl, ?_⟩) (fun h => absurd (by omega) h)
    rw [show (((bs.length : Nat) : Int) - ((readJ real bs.length A 0 bs).2.1.length : Nat)).toNat = bs.length - (readJ real bs.length A 0 bs).2.1.length from by omega] at h7
    replace h5 := h5.mv n2 (by simp; omega)
    try dsimp only
    rw [loadK_C h5]
    refine ⟨_, rfl, ?_⟩
    refine leaveK_C (h3.mv n2 (by simp; omega)) fun q3 n3 => ?_
    refine H pj q3 ((h1.step n2 (by simp)).step n3 (by simp)) ((x.mv n2 (by simp; omega) (by simp; omega)).mv n3 (by simp) (by simp)) (h7.mv n3 (by simp; omega) (by simp; omega)) ((h6.mv n2 (by simp; omega) (by simp; omega) (by simp; omega)).mv n3 (by simp; omega) (by simp; omega) (by simp; omega))


/-! ### The methods -/
def framesT (real : Bool) : List ShThing.T → Nat → List (List Int) → List (List Int) × List ShThing.T
  | A, _, [] => ([], A)
  | A, i, b :: l => ((frameT real A i b).1 :: (framesT real (frameT real A i b).2 (i + 1) l).1, (framesT real (frameT real A i b).2 (i + 1) l).2)
theorem framesT_snoc (real : Bool) (b : List Int) : ∀ (l : List (List Int)) (A : List ShThing.T) (i : Nat), framesT real A i (l ++ [b]) = ((framesT real A i l).1 ++ [(frameT real (framesT real A i l).2 (i + l.length) b).1], (frameT real (framesT real A i l).2 (i + l.length) b).2)
  | [], A, i => rfl
  | c :: l, A, i => by
    simp only [List.cons_append, framesT, framesT_snoc real b l, List.length_cons]
    rw [show i + 1 + l.length = i + (l.length + 1) from by omega]
theorem framesT_len (real : Bool) : ∀ (l : List (List Int)) (A : List ShThing.T) (i : Nat), (framesT real A i l).1.length = l.length
  | [], A, i => rfl
  | c :: l, A, i => by simp only [framesT, List.length_cons, framesT_len real l]
theorem framesT_total (real : Bool) : ∀ (l : List (List Int)) (A : List ShThing.T) (i : Nat), total (framesT real A i l).1 = 36 * l.length + total l
  | [], A, i => rfl
  | c :: l, A, i => by
    have := framesT_total real l (frameT real A i c).2 (i + 1)
    simp only [framesT, total, List.flatten_cons, List.length_append, List.length_cons, frameT_len] at this ⊢
    omega
theorem total_bound : ∀ (l : List (List Int)) (n : Nat), (∀ x ∈ l, x.length ≤ n) → total l ≤ l.length * n
  | [], n, _ => by simp [total]
  | x :: l, n, h => by
    have := total_bound l n fun y hy => h y (by simp [hy])
    have h1 := h x (by simp)
    simp only [total, List.flatten_cons, List.length_append, List.length_cons] at this ⊢
    rw [Nat.succ_mul]; omega

theorem foldDisk {g : GH} {kp kb p safe : Nat} {bs : List Int} (r : DiskC g kp kb p safe bs) (ψ : Nat → Nat) (h1 : ψ kp = kp) (h2 : ψ kb = kb) : DiskC (GH.fold g ψ) kp kb p safe bs := by
  obtain ⟨s, b, o, r⟩ := r
  exact ⟨s, foldBlk b ψ h1, ⟨o.own, fun x hx => by show ψ (g.γ x) = kb; rw [o.col x hx, h2]⟩, r⟩
theorem unfoldDisk {K : List Nat} {g q : GH} {ψ : Nat → Nat} (m : Mv K (GH.fold g ψ) q) {kp kb p safe : Nat} {bs : List Int} (r : DiskC q kp kb p safe bs) (h1 : ∀ z, ψ z = kp → z = kp) (h2 : ∀ z, ψ z = kb → z = kb) : DiskC (g.via q id) kp kb p safe bs := by
  obtain ⟨s, b, o, r⟩ := r
  exact ⟨s, ⟨b.blk, unfoldCol m h1 b.col⟩, ⟨o.own, fun x hx => unfoldCol m h2 (o.col x hx)⟩, r⟩
theorem Write2_spec {g : GH} {kp kb kh ke p safe : Nat} {bs : List Int} (hk : kp ≠ kb) (h1 : kh ≠ kp) (h2 : kh ≠ kb) (h3 : ke ≠ kp) (h4 : ke ≠ kb) (hd : DiskC g kp kb p safe bs) (rows : Sl) (xss : List (List Int)) (hr : Row2C g kh ke rows xss) (ht : total xss ≤ 90000000) (hl : xss.length ≤ 1000000000000000) {R : Value → Heap → Prop}
    (H1 : bs.length + total xss ≤ 1048576 → ∀ g' : GH, Mv [kp, kb] g g' → DiskC g' kp kb p safe (bs ++ xss.flatten) → R (.int .i64 0) g'.h)
    (H2 : ¬ bs.length + total xss ≤ 1048576 → R (.int .i64 3) g.h) : HC Tryz.prog F.disk_Disk_Write #[.pointer (some ⟨p, 0, none⟩), .slice rows.a rows.n rows.c] R g.h := by
  have hun : ∀ z t : Nat, ¬ t = kh → psiJ ke kh z = t → z = t := by
    intro z t ht h
    unfold psiJ at h
    split at h
    · exact absurd h.symm ht
    · exact h
  have hid : ∀ t : Nat, ¬ t = ke → psiJ ke kh t = t := fun t ht => if_neg ht
  refine Write_spec (g := GH.fold g (psiJ ke kh)) hk h1 h2 (foldDisk hd _ (hid _ (Ne.symm h3)) (hid _ (Ne.symm h4))) rows xss hr.fold ht hl (fun hf q m d => ?_) H2
  refine H1 hf (g.via q id) (unfoldMv m fun z hz => ?_) (unfoldDisk m d (fun z => hun z _ (Ne.symm h1)) (fun z => hun z _ (Ne.symm h2)))
  simp only [List.mem_cons, List.mem_nil_iff, or_false] at hz ⊢
  rcases hz with h | h
  · exact .inl (hun z _ (Ne.symm h1) h)
  · exact .inr (hun z _ (Ne.symm h2) h)

section
variable {g : GH} {kj kh ke pj pm pd : Nat} {rs : List (List Int)}
theorem jMade_spec (j : JrnC g kj kh ke pj pm pd rs) {R : Value → Heap → Prop} (H : R (.bool true) g.h) : HC Tryz.prog F.journal_Journal_made #[ptrV pj] R g.h := by
  obtain ⟨s, b, r⟩ := j
  refine journal_Journal_made.calls ?_
  unfold journal_Journal_made.body
  rw [if_pos (by rfl), derefK_some, fldK_some, loadK_C b]
  exact ⟨_, rfl, H⟩
theorem jLen_spec (j : JrnC g kj kh ke pj pm pd rs) {R : Value → Heap → Prop} (H : R (.int .i64 (rs.length : Nat)) g.h) : HC Tryz.prog F.journal_Journal_Len #[ptrV pj] R g.h := by
  refine journal_Journal_Len.calls ?_
  unfold journal_Journal_Len.body
  refine jMade_spec j ⟨_, rfl, ?_⟩
  obtain ⟨s, b, r⟩ := j
  try dsimp only
  rw [if_neg (by simp), derefK_some, fldK_some, loadK_C b]
  refine ⟨s, rfl, ?_⟩
  rw [r.len]
  exact H
theorem jSync_spec {kq kr safe : Nat} {bs : List Int} (hk : kq ≠ kr) (j : JrnC g kj kh ke pj pm pd rs) (dk : DiskC g kq kr pd safe bs) {R : Value → Heap → Prop} (H : ∀ g' : GH, Mv [kq] g g' → DiskC g' kq kr pd bs.length bs → R (.int .i64 0) g'.h) : HC Tryz.prog F.journal_Journal_Sync #[ptrV pj] R g.h := by
  refine journal_Journal_Sync.calls ?_
  unfold journal_Journal_Sync.body
  refine jMade_spec j ⟨_, rfl, ?_⟩
  obtain ⟨s, b, r⟩ := j
  try dsimp only
  rw [if_neg (by simp), derefK_some, fldK_some, loadK_C b]
  refine ⟨_, rfl, ?_⟩
  exact Sync_spec hk dk fun g' m d => ⟨_, rfl, H g' m d⟩
theorem jRecords_spec (j : JrnC g kj kh ke pj pm pd rs) (hl : rs.length ≤ 10000000) (hb : ∀ x ∈ rs, x.length ≤ 1000000000) (c : Nat) {R : Value → Heap → Prop} (H : ∀ (s : Sl) (g' : GH), Mv [] g g' → RowsC g' c s rs → s.n ≤ s.c → R (.slice s.a s.n s.c) g'.h) : HC Tryz.prog F.journal_Journal_Records #[ptrV pj] R g.h := by
  refine journal_Journal_Records.calls ?_
  unfold journal_Journal_Records.body
  refine jLen_spec j ⟨_, rfl, ?_⟩
  try dsimp only
  have j0 : JrnC g.base 0 0 0 pj pm pd rs := by
    obtain ⟨s, b, sls, o, l, h⟩ := j
    exact ⟨s, b.base, sls, o.base, l, fun i sl xs a b => ⟨(h i sl xs a b).1.base, (h i sl xs a b).2⟩⟩
  refine loopW_rule (fun st h' => ∃ (i : Nat) (s : Sl) (q : GH), i ≤ rs.length ∧ st = (s, (i : Int)) ∧ h' = q.h ∧ Mv [1] g.base q ∧ Row2C q 1 2 s (rs.take i)) (fun st => rs.length - st.2.toNat)
    ⟨0, ⟨none, 0, 0⟩, g.base, by omega, rfl, rfl, Mv.refl _ _, Row2C.nil _ _ _⟩ ?_
  rintro X _ _ ⟨i, s, q, hi, rfl, rfl, m, r⟩ hX
  try dsimp only
  by_cases hlt : i < rs.length
  · rw [if_pos (by simp; omega)]
    obtain ⟨sj, b, rj⟩ := j0.mv m (by simp) (by simp) (by simp)
    rw [derefK_some, fldK_some, loadK_C b]
    refine ⟨sj, rfl, ?_⟩
    refine rj.idx (by kernel_rfl) hlt fun sl rsl hsl => ?_
    refine CloneBytes_spec q 2 sl _ rsl.rd (hb _ (List.getElem_mem hlt)) fun s2 q2 m2 o2 => ⟨_, rfl, ?_⟩
    refine push2_C (by decide) (r.mv m2 (by simp) (by simp)) (by rw [List.length_take]; omega) o2.rd o2.cap fun s3 q3 m3 r3 => ?_
    rw [wrapSucc (by omega)]
    exact hX _ _ ⟨i + 1, s3, q3, by omega, rfl, rfl, (m.step m2 (by simp)).step m3 (by simp), by rw [List.take_succ_eq_append_getElem hlt]; exact r3⟩ (by simp; omega)
  · rw [if_neg (by simp; omega)]
    rw [List.take_of_length_le (by omega)] at r
    have hc : s.n ≤ s.c := by obtain ⟨sls, o, _⟩ := r; exact o.cap
    exact H s (g.via q fun _ => c) (m.via (by simp) _) (r.via m (by decide) (by decide) c) hc
end
theorem jBig_spec {g : GH} {d : Nat} (rows : Sl) (xss : List (List Int)) (hr : RowsC g d rows xss) (hl : xss.length ≤ 1000000000) {R : Value → Heap → Prop} (H : R (.bool (decide (¬ ∀ x ∈ xss, x.length ≤ 4096))) g.h) :
    HC Tryz.prog F.slices_ContainsFunc_byte_byte #[.slice rows.a rows.n rows.c, .func (.func F.journal_Journal_Put_1) #[] #[]] R g.h := by
  refine slices_ContainsFunc_byte_byte.calls (s0 := rows) ?_
  unfold slices_ContainsFunc_byte_byte.body
  have hn := hr.len
  have idx : HC Tryz.prog F.slices_IndexFunc_byte_byte #[.slice rows.a rows.n rows.c, .func (.func F.journal_Journal_Put_1) #[] #[]] (fun v h' => ∃ n : Int, v = .int .i64 n ∧ h' = g.h ∧ decide (n ≥ 0) = decide (¬ ∀ x ∈ xss, x.length ≤ 4096)) g.h := by
    refine slices_IndexFunc_byte_byte.calls (s0 := rows) ?_
    unfold slices_IndexFunc_byte_byte.body
    refine loopW_rule (fun st h' => ∃ i : Nat, i ≤ xss.length ∧ st = (i : Int) ∧ h' = g.h ∧ ∀ x ∈ xss.take i, x.length ≤ 4096) (fun st => xss.length - st.toNat) ⟨0, by omega, rfl, rfl, by simp⟩ ?_
    rintro X _ _ ⟨i, hi, rfl, rfl, hall⟩ hX
    try dsimp only
    by_cases hlt : i < xss.length
    · rw [if_pos (by simp; omega)]
      refine hr.idx (by kernel_rfl) hlt fun sl rsl _ => ?_
      have hsl := rsl.len
      rw [List.length_map] at hsl
      refine callV_fn ?_
      show HC Tryz.prog F.journal_Journal_Put_1 #[.slice sl.a sl.n sl.c] _ g.h
      refine journal_Journal_Put_1.calls (b0 := sl) ?_
      unfold journal_Journal_Put_1.body
      refine ⟨_, rfl, ?_⟩
      try dsimp only
      by_cases hbig : xss[i].length > 4096
      · rw [if_pos (by simp; omega)]
        refine ⟨_, rfl, rfl, ?_⟩
        rw [decide_eq_true (by omega), decide_eq_true]
        intro h
        have := h _ (List.getElem_mem hlt)
        omega
      · rw [if_neg (by simp; omega), wrapSucc (by omega)]
        refine hX _ _ ⟨i + 1, by omega, rfl, rfl, ?_⟩ (by simp; omega)
        rw [List.take_succ_eq_append_getElem hlt]
        intro x hx
        rcases List.mem_append.1 hx with hx | hx
        · exact hall x hx
        · simp only [List.mem_singleton] at hx; rw [hx]; omega
    · rw [if_neg (by simp; omega)]
      refine ⟨_, rfl, rfl, ?_⟩
      rw [List.take_of_length_le (by omega)] at hall
      rw [decide_eq_false (by decide), decide_eq_false (fun h => h hall)]
  refine idx.mono ?_
  rintro v h' ⟨n, rfl, rfl, hd⟩
  refine ⟨_, rfl, ?_⟩
  try dsimp only
  rw [hd]
  exact H

set_option maxHeartbeats 4000000 in
theorem jPut_spec {g : GH} {kq kr kj kh ke d pm pd pj safe : Nat} (hk : okK [kq, kr, kj, kh, ke]) (hd : d < 100 ∧ ¬ d = 1 ∧ ¬ d = 2 ∧ ¬ d = kq ∧ ¬ d = kr ∧ ¬ d = kj ∧ ¬ d = kh ∧ ¬ d = ke) {real : Bool} {seed : List Int} {A : List ShThing.T} (x : MakC g 1 2 pm real seed A) {bs : List Int} (dk : DiskC g kq kr pd safe bs) {rs : List (List Int)} (j : JrnC g kj kh ke pj pm pd rs)
    (rows : Sl) (xss : List (List Int)) (hr : RowsC g d rows xss) (hby : ∀ x ∈ xss, ∀ z ∈ x, isByte z) (hl : xss.length ≤ 20000) (hrl : rs.length ≤ 10000000) {R : Value → Heap → Prop}
    (H1 : (∀ x ∈ xss, x.length ≤ 4096) → bs.length + total (framesT real A rs.length xss).1 ≤ 1048576 → ∀ g' : GH, Mv (2 :: kq :: kr :: kj :: kh :: SJ) g g' → MakC g' 1 2 pm real seed (framesT real A rs.length xss).2 → DiskC g' kq kr pd safe (bs ++ (framesT real A rs.length xss).1.flatten) → JrnC g' kj kh ke pj pm pd (rs ++ xss) → R (.int .i64 0) g'.h)
    (H2 : ¬ (∀ x ∈ xss, x.length ≤ 4096) → R (.int .i64 2) g.h)
    (H3 : (∀ x ∈ xss, x.length ≤ 4096) → ¬ bs.length + total (framesT real A rs.length xss).1 ≤ 1048576 → ∀ g' : GH, Mv (2 :: SJ) g g' → MakC g' 1 2 pm real seed (framesT real A rs.length xss).2 → R (.int .i64 3) g'.h) :
    HC Tryz.prog F.journal_Journal_Put #[ptrV pj, .slice rows.a rows.n rows.c] R g.h := by
  refine journal_Journal_Put.calls (l1 := rows) ?_
  unfold journal_Journal_Put.body
  obtain ⟨hnd, hk3⟩ := hk
  simp only [List.nodup_cons, List.mem_cons, List.mem_nil_iff, or_false, not_or, List.nodup_nil, not_false_eq_true, and_true, forall_eq_or_imp, forall_eq] at hnd hk3
  have hn := hr.len
  refine jMade_spec j ⟨_, rfl, ?_⟩
  try dsimp only
  rw [if_neg (by simp)]
  refine jBig_spec rows xss hr (by omega) ⟨_, rfl, ?_⟩
  try dsimp only
  by_cases hall : ∀ x ∈ xss, x.length ≤ 4096
  rotate_left
  · rw [if_pos (by simpa using hall)]
    exact H2 hall
  rw [if_neg (by rw [decide_eq_true_eq]; exact fun h => h hall)]
  have hsn := framesT_snoc real
  refine loopW_rule (fun st h' => ∃ (i : Nat) (s : Sl) (q : GH), i ≤ xss.length ∧ st = (s, (i : Int)) ∧ h' = q.h ∧ Mv (2 :: SJ) g q ∧ MakC q 1 2 pm real seed (framesT real A rs.length (xss.take i)).2 ∧ Row2C q 107 108 s (framesT real A rs.length (xss.take i)).1) (fun st => xss.length - st.2.toNat)
    ⟨0, ⟨none, 0, 0⟩, g, by omega, rfl, rfl, Mv.refl _ _, x, Row2C.nil _ _ _⟩ ?_
  clear x
  rintro X _ _ ⟨i, s, q, hi, rfl, rfl, m, x, r⟩ hX
  try dsimp only
  have jq := j.mv m (by simp; omega) (by simp; omega) (by simp; omega)
  have hrq := hr.mv m (by simp; omega)
  have dq := dk.mv m (by simp; omega) (by simp; omega)
  by_cases hlt : i < xss.length
  · rw [if_pos (by simp; omega)]
    refine hrq.idx (by kernel_rfl) hlt fun sl rsl hsl => ?_
    obtain ⟨sj, b, rj⟩ := jq
    rw [derefK_some, fldK_some, derefK_some, fldK_some]
    refine smith_load b ?_
    rw [loadK_C b]
    refine ⟨sj, rfl, ?_⟩
    have hrj := rj.len
    rw [hrj, wrapI64 (by omega) (by omega)]
    have hlen := hall _ (List.getElem_mem hlt)
    have hz := hby _ (List.getElem_mem hlt)
    refine frame_spec (c := 1) (k := 2) (d := d) (o := 108) (y1 := 100) (y2 := 101) (y3 := 102) (y4 := 103) (by simp; omega) x (rs.length + i) sl xss[i] rsl hsl (by omega) hz fun sf q3 m3 x3 of => ⟨_, rfl, ?_⟩
    have hs1 := hsn xss[i] (xss.take i) A rs.length
    rw [List.length_take, Nat.min_eq_left hi, ← List.take_succ_eq_append_getElem hlt] at hs1
    refine push2_C (by decide) (r.mv m3 (by simp) (by simp)) (by rw [framesT_len, List.length_take]; omega) of.rd of.cap fun s4 q4 m4 r4 => ?_
    rw [wrapSucc (by omega)]
    refine hX _ _ ⟨i + 1, s4, q4, by omega, rfl, rfl, (m.step m3 (by simp)).step m4 (by simp), ?_, ?_⟩ (by simp; omega)
    · rw [hs1]; exact x3.mv m4 (by simp) (by simp)
    · rw [hs1]; exact r4
  rw [if_neg (by simp; omega)]
  clear hX
  rw [List.take_of_length_le (by omega)] at x r
  have htot := framesT_total real xss A rs.length
  have htb := total_bound xss 4096 hall
  have hfl := framesT_len real xss A rs.length
  obtain ⟨sj, b, rj⟩ := jq
  rw [derefK_some, fldK_some, loadK_C b]
  refine ⟨_, rfl, ?_⟩
  refine Write2_spec (by omega) (by omega) (by omega) (by omega) (by omega) dq s _ r (by omega) (by omega) (fun hfit q2 m2 d2 => ⟨_, rfl, ?_⟩) (fun hfit => ⟨_, rfl, ?_⟩)
  rotate_left
  · try dsimp only
    rw [if_pos (by decide)]
    exact H3 hall hfit q m x
  try dsimp only
  rw [if_neg (by decide)]
  replace x := x.mv m2 (by simp; omega) (by simp; omega)
  have m' : Mv (2 :: kq :: kr :: kj :: kh :: SJ) g q2 := m.then m2 (by simp)
  have j2 : JrnC q2 kj kh ke pj pm pd rs := ⟨sj, b.mv m2 (by simp; omega), rj.mv m2 (by simp; omega) (by simp; omega)⟩
  clear b rj r m m2 dq hrq
  refine loopW_rule (fun st h' => ∃ (i : Nat) (q : GH), i ≤ xss.length ∧ st = (i : Int) ∧ h' = q.h ∧ Mv (2 :: kq :: kr :: kj :: kh :: SJ) g q ∧ MakC q 1 2 pm real seed (framesT real A rs.length xss).2 ∧ DiskC q kq kr pd safe (bs ++ (framesT real A rs.length xss).1.flatten) ∧ JrnC q kj kh ke pj pm pd (rs ++ xss.take i)) (fun st => xss.length - st.toNat)
    ⟨0, q2, by omega, rfl, rfl, m', x, d2, by simpa using j2⟩ ?_
  clear x m' d2 j2
  rintro X _ _ ⟨i, q, hi, rfl, rfl, m, x, d2, j2⟩ hX
  try dsimp only
  by_cases hlt : i < xss.length
  · rw [if_pos (by simp; omega)]
    refine (hr.mv m (by simp; omega)).idx (by kernel_rfl) hlt fun sl rsl hsl => ?_
    obtain ⟨sj, b, rj⟩ := j2
    rw [derefK_some, fldK_some, loadK_C b]
    refine ⟨sj, rfl, ?_⟩
    have hlen := hall _ (List.getElem_mem hlt)
    refine CloneBytes_spec q ke sl _ rsl.rd (by omega) fun s2 q2 m2 o2 => ⟨_, rfl, ?_⟩
    refine ⟨stillK_C (b.mv m2 (by simp)) rfl, ?_⟩
    refine push2_C (by omega) (rj.mv m2 (by simp) (by simp)) (by rw [List.length_append, List.length_take]; omega) o2.rd o2.cap fun s3 q3 m3 r3 => ?_
    rw [derefK_some, fldK_some]
    refine store_C ((b.mv m2 (by simp)).mv m3 (by simp; omega)) (by simp) rfl fun q4 m4 b4 => ?_
    rw [wrapSucc (by omega)]
    refine hX _ _ ⟨i + 1, q4, by omega, rfl, rfl, ((m.step m2 (by simp)).step m3 (by simp)).step m4 (by simp), ((x.mv m2 (by simp) (by simp)).mv m3 (by simp; omega) (by simp; omega)).mv m4 (by simp; omega) (by simp; omega), ((d2.mv m2 (by simp) (by simp)).mv m3 (by simp; omega) (by simp; omega)).mv m4 (by simp; omega) (by simp; omega), ⟨s3, b4, ?_⟩⟩ (by simp; omega)
    rw [List.take_succ_eq_append_getElem hlt, ← List.append_assoc]
    exact r3.mv m4 (by simp; omega) (by simp; omega)
  · rw [if_neg (by simp; omega)]
    rw [List.take_of_length_le (by omega)] at j2
    exact H1 hall hfit q m x d2 j2

end Go.Proofs.YtgongoaiflphaaaGreat
