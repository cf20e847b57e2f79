/-
  The law's kit: contracts in colours. Printed by kitc.py.
-/
import Derived.Test.YtafjmdeldejonaaGreatKRows
import Derived.Test.YtafjmdeldejonaaGreatCol
set_option linter.unusedSimpArgs false
set_option linter.unusedVariables false
namespace Go.Proofs.YtafjmdeldejonaaGreat
open Go Go.Ev

theorem oneBy (xs : List Int) : ∀ v ∈ xs.map byV, v.oneCell' = true := by intro v hv; obtain ⟨_, _, rfl⟩ := List.mem_map.1 hv; rfl

theorem CloneBytes_spec (g : GH) (c : Nat) (s : Sl) (bs : List Int) (hr : Rd 1 g.h s (bs.map byV)) (hl : bs.length ≤ 1000000000) {R : Value → Heap → Prop}
    (H : ∀ (s' : Sl) (g' : GH), Mv [] g g' → OwnC T.uint8 1 g' c s' (bs.map byV) → R (.slice s'.a s'.n s'.c) g'.h) : HC Tryz.prog F.slices_Clone_byte_byte #[.slice s.a s.n s.c] R g.h := by
  refine slices_Clone_byte_byte.calls (s0 := s) ?_
  unfold slices_Clone_byte_byte.body
  have hn := hr.len
  simp only [List.length_map] at hn
  cases ha : s.a with
  | none =>
    try simp only [derefK_some, fldK_some, Nat.zero_add, Nat.add_zero, Nat.reduceAdd, inj_int, inj_bool, inj_str, inj_ptr, inj_map, inj_slice, exists_eq_left, List.getElem?_toArray, List.getElem?_cons_zero, List.getElem?_cons_succ, Option.isNone_some, Option.isNone_none, Bool.not_true, Bool.not_false, Bool.false_eq_true, if_true, if_false, reduceIte, eq_self, not_true_eq_false, not_false_eq_true, bne_self_eq_false, beq_self_eq_true, decide_true, decide_false, decide_eq_true_eq, beq_iff_eq, bne_iff_ne, ne_eq]
    have : bs = [] := by
      rcases hr.2 with h | ⟨b, o, y, e, fz, h, _⟩
      · simpa using h
      · rw [ha] at h; cases h
    subst this
    exact H ⟨none, 0, 0⟩ g (Mv.refl _ _) (OwnC.nil _ _ _ _)
  | some a =>
    try simp only [derefK_some, fldK_some, Nat.zero_add, Nat.add_zero, Nat.reduceAdd, inj_int, inj_bool, inj_str, inj_ptr, inj_map, inj_slice, exists_eq_left, List.getElem?_toArray, List.getElem?_cons_zero, List.getElem?_cons_succ, Option.isNone_some, Option.isNone_none, Bool.not_true, Bool.not_false, Bool.false_eq_true, if_true, if_false, reduceIte, eq_self, not_true_eq_false, not_false_eq_true, bne_self_eq_false, beq_self_eq_true, decide_true, decide_false, decide_eq_true_eq, beq_iff_eq, bne_iff_ne, ne_eq]
    have m0 := Mv.refl [1] g.base
    refine newSl_C g.base 1 rfl fun s1 q1 m1 o1 hn1 _ => ?_
    rw [← ha]
    refine append_C (e := T.uint8) (e2 := T.uint8) (sz := 1) (by_ := 1) (z := .int .u8 0) (by kernel_rfl) (by kernel_rfl) (by kernel_rfl) rfl (by omega) o1 (hr.arg (m0.step m1 (by simp)) (by simp)).rd (oneBy _) (by omega) fun s2 q2 m2 o2 _ _ => ?_
    have m := (m0.step m1 (by simp)).step m2 (by simp)
    exact H s2 (g.via q2 fun _ => c) (m.via (by simp) _) (o2.via m (by simp) _)

/-- How many bytes rows have. -/
def total (xss : List (List Int)) : Nat := xss.flatten.length
theorem total_take {xss : List (List Int)} {i : Nat} (h : i < xss.length) : total (xss.take (i + 1)) = total (xss.take i) + (xss[i]'h).length := by
  unfold total; rw [List.take_succ_eq_append_getElem h, List.flatten_append]; simp
theorem total_le {xss : List (List Int)} (i : Nat) : total (xss.take i) ≤ total xss := by
  unfold total
  conv => rhs; rw [← List.take_append_drop i xss]
  rw [List.flatten_append]; simp


/-- A row that is lent, of a colour. -/
structure LentBytesC (g : GH) (c : Nat) (s : Sl) (xs : List Int) : Prop where
  lent : Lent T.uint8 g.h s (xs.map valBytes) marksBytes
  col : ∀ b, s.blk = some b → g.γ b = c
theorem LentBytesC.mv {K : List Nat} {g g' : GH} {c : Nat} {s : Sl} {xs : List Int} (r : LentBytesC g c s xs) (m : Mv K g g') (hk : c ∉ K) : LentBytesC g' c s xs := by
  have o : OwnC T.uint8 1 g c ⟨s.a, s.n + marksBytes.length, s.c⟩ (xs.map valBytes ++ marksBytes) := ⟨r.lent.2, r.col⟩
  exact ⟨⟨r.lent.1, (o.mv m hk).own⟩, (o.mv m hk).col⟩
theorem LentBytesC.rd {g : GH} {c : Nat} {s : Sl} {xs : List Int} (r : LentBytesC g c s xs) : RdC 1 g c s (xs.map valBytes) := by
  refine ⟨r.lent.rd, ?_⟩
  rcases r.lent.rd.2 with h | ⟨b, o, cs, e, fz, ha, hb, _⟩
  · exact .inl h
  · exact .inr ⟨b, by simp [Sl.blk, ha], lt_of_get hb, r.col b (by simp [Sl.blk, ha])⟩
theorem LentBytesC.re {K : List Nat} {g q : GH} {k : Nat} {s : Sl} {xs : List Int} (r : LentBytesC q k s xs) (m : Mv K g q) {φ : Nat → Nat} (h : φ k = k ∨ Fresh g k) : LentBytesC (g.via q φ) (φ k) s xs := ⟨r.lent, fun b hb => m.reCol h (r.col b hb)⟩
theorem LentBytesC.len {g : GH} {c : Nat} {s : Sl} {xs : List Int} (r : LentBytesC g c s xs) : s.n = xs.length := by simpa using r.lent.1
theorem LentBytesC.cap {g : GH} {c : Nat} {s : Sl} {xs : List Int} (r : LentBytesC g c s xs) : s.n ≤ s.c := by have := r.lent.cap; omega
theorem LentBytesC.own {g : GH} {c : Nat} {s : Sl} {xs : List Int} (r : LentBytesC g c s xs) : OwnC T.uint8 1 g c s (xs.map valBytes) := by
  have h1 := r.lent.2
  have h2 := h1.take (n := s.n) (k := s.c) (by rw [r.lent.1]; simp) (by have := r.cap; exact this) (Nat.le_refl _)
  rw [r.lent.1, List.take_left] at h2
  obtain ⟨a, n, k⟩ := s
  have hn := r.lent.1
  dsimp only at hn h2
  subst hn
  exact ⟨h2, r.col⟩

theorem LentBytes_C (g : GH) (c : Nat) (l : Sl) (xs : List Int) {R : Value → Heap → Prop} (hr : Rd 1 g.h l (xs.map valBytes)) (hlen : xs.length ≤ 100000000)
    (H : ∀ (s' : Sl) (g' : GH), Mv [] g g' → LentBytesC g' c s' xs → R (.slice s'.a s'.n s'.c) g'.h) : HC Tryz.prog F.kit_LentBytes #[.slice l.a l.n l.c] R g.h := by
  refine LentBytes_spec l (xs.map valBytes) hr (by intro v hv; obtain ⟨_, _, rfl⟩ := List.mem_map.1 hv; rfl) (by simpa using hlen) fun s' h' hl x hb => ?_
  exact H s' (g.to h' c) (GH.to_ext c x) ⟨hl, fun b h1 => g.to_new _ _ _ (hb b h1)⟩

/-! ### Rows of rows of bytes -/

/-- Rows that are lent: each with marks behind. -/
def LentRowsC (g : GH) (c : Nat) (s : Sl) (xss : List (List Int)) : Prop :=
  ∃ sls : List Sl, OwnC T.sl_uint8 1 g c s (sls.map slV) ∧ sls.length = xss.length ∧ ∀ (i : Nat) (sl : Sl) (xs : List Int), sls[i]? = some sl → xss[i]? = some xs → LentBytesC g c sl xs
theorem LentRowsC.mv {K : List Nat} {g g' : GH} {c : Nat} {s : Sl} {xss : List (List Int)} (r : LentRowsC g c s xss) (m : Mv K g g') (hk : c ∉ K) : LentRowsC g' c s xss := by
  obtain ⟨sls, h1, h2, h3⟩ := r
  exact ⟨sls, h1.mv m hk, h2, fun i sl xs a b => (h3 i sl xs a b).mv m hk⟩
theorem LentRowsC.rows {g : GH} {c : Nat} {s : Sl} {xss : List (List Int)} (r : LentRowsC g c s xss) : RowsC g c s xss := by
  obtain ⟨sls, h1, h2, h3⟩ := r
  exact ⟨sls, h1.rd, h2, fun i sl xs a b => ⟨(h3 i sl xs a b).rd, (h3 i sl xs a b).cap⟩⟩
theorem LentRowsC.re {K : List Nat} {g q : GH} {k : Nat} {s : Sl} {xss : List (List Int)} (r : LentRowsC q k s xss) (m : Mv K g q) {φ : Nat → Nat} (h : φ k = k ∨ Fresh g k) : LentRowsC (g.via q φ) (φ k) s xss := by
  obtain ⟨sls, h1, h2, h3⟩ := r
  exact ⟨sls, h1.re m h, h2, fun i sl xs a b => (h3 i sl xs a b).re m h⟩
theorem LentRowsC.len {g : GH} {c : Nat} {s : Sl} {xss : List (List Int)} (r : LentRowsC g c s xss) : s.n = xss.length := r.rows.len
theorem LentRowsC.cap {g : GH} {c : Nat} {s : Sl} {xss : List (List Int)} (r : LentRowsC g c s xss) : s.n ≤ s.c := by
  obtain ⟨sls, h1, h2, h3⟩ := r
  exact h1.cap

theorem LentByteRows_C (g : GH) (c : Nat) {d : Nat} (l : Sl) (xss : List (List Int)) {R : Value → Heap → Prop} (hr : RowsC g d l xss) (hlen : xss.length ≤ 100000000) (hx : ∀ x ∈ xss, x.length ≤ 100000000)
    (H : ∀ (s' : Sl) (g' : GH), Mv [] g g' → LentRowsC g' c s' xss → R (.slice s'.a s'.n s'.c) g'.h) : HC Tryz.prog F.kit_LentByteRows #[.slice l.a l.n l.c] R g.h := by
  refine kit_LentByteRows.calls (l0 := l) ?_
  unfold kit_LentByteRows.body
  have hn : l.n = xss.length := hr.len
  refine loopW_rule (fun st h' => ∃ (i : Nat) (s : Sl) (sls : List Sl) (q : GH), i ≤ xss.length ∧ st = (s, (i : Int)) ∧ h' = q.h ∧ Mv [2] ⟨g.h, fun _ => 0⟩ q ∧ OwnC T.sl_uint8 1 q 2 s (sls.map slV) ∧ sls.length = i ∧
      ∀ (k : Nat) (sl : Sl) (xs : List Int), sls[k]? = some sl → xss[k]? = some xs → LentBytesC q 1 sl xs) (fun st => xss.length - st.2.toNat)
    ⟨0, ⟨none, 0, 0⟩, [], ⟨g.h, fun _ => 0⟩, by omega, rfl, rfl, Mv.refl _ _, OwnC.nil _ _ _ _, rfl, by simp⟩ ?_
  rintro X _ _ ⟨i, s, sls, q, hi, rfl, rfl, m, own, hl, hall⟩ hX
  dsimp only
  by_cases hlt : i < xss.length
  · rw [if_pos (by simp [hn]; omega)]
    refine (hr.arg m (by decide)).idx (by kernel_rfl) hlt fun s1 r1 _ => ?_
    refine LentBytes_C q 1 s1 _ r1.rd (by have := hx _ (List.getElem_mem hlt); omega) fun s2 q2 m2 l2 => ⟨_, rfl, ?_⟩
    refine newSl_C q2 3 rfl fun s3 q3 m3 o3 hn3 _ => ?_
    have own3 := (own.mv m2 (by decide)).mv m3 (by decide)
    refine append_C (e := T.sl_uint8) (e2 := T.sl_uint8) (sz := 1) (by_ := 24) (z := .slice none 0 0) (by kernel_rfl) (by kernel_rfl) (by kernel_rfl) rfl (by omega) own3 o3.rd.rd (by simp [Value.oneCell']) (by have := own.len; simp at this; omega) fun s4 q4 m4 o4 hn4 _ => ?_
    rw [wrapSucc (by omega)]
    refine hX _ _ ⟨i + 1, s4, sls ++ [s2], q4, by omega, rfl, rfl, ((m.step m2 (by simp)).step m3 (by simp)).step m4 (by simp), by simpa using o4, by simp [hl], ?_⟩ (by simp; omega)
    intro k sl xs hk hx
    by_cases hki : k < sls.length
    · rw [List.getElem?_append_left hki] at hk
      exact (((hall k sl xs hk hx).mv m2 (by decide)).mv m3 (by decide)).mv m4 (by decide)
    · have : k = i := by have := (List.getElem?_eq_some_iff.1 hk).1; simp at this; omega
      subst this
      rw [List.getElem?_append_right (by omega), show k - sls.length = 0 from by omega] at hk
      simp at hk
      subst hk
      have := List.getElem?_eq_some_iff.1 hx
      obtain ⟨_, rfl⟩ := this
      exact (l2.mv m3 (by decide)).mv m4 (by decide)
  · rw [if_neg (by simp [hn]; omega)]
    have hi' : i = xss.length := by omega
    have x := m.ext (by decide)
    refine H s (g.to q.h c) (GH.to_ext c x) ⟨sls, ⟨own.own, fun b hb => ?_⟩, by omega, fun k sl xs a b => ⟨(hall k sl xs a b).lent, fun b' hb' => ?_⟩⟩
    · exact m.fresh (own.own.blk_lt hb) (by rw [own.col b hb]; decide)
    · exact m.fresh ((hall k sl xs a b).lent.2.blk_lt hb') (by rw [(hall k sl xs a b).col b' hb']; decide)

theorem KeptByteRows_C {g : GH} {c d : Nat} (s l : Sl) (xss : List (List Int)) {R : Value → Heap → Prop} (hs : LentRowsC g c s xss) (hr : RowsC g d l xss) (hlen : xss.length ≤ 100000000) (hx : ∀ x ∈ xss, x.length ≤ 100000000)
    (H : R (.bool true) g.h) : HC Tryz.prog F.kit_KeptByteRows #[.slice s.a s.n s.c, .slice l.a l.n l.c] R g.h := by
  refine kit_KeptByteRows.calls (in0 := s) (l1 := l) ?_
  unfold kit_KeptByteRows.body
  have hn : s.n = xss.length := hs.len
  have hm : l.n = xss.length := hr.len
  rw [if_neg (by simp [hn, hm])]
  obtain ⟨sls, h1, h2, h3⟩ := hs
  refine loopW_rule (fun st h' => ∃ i : Nat, i ≤ xss.length ∧ st = (i : Int) ∧ g.h = h') (fun st => xss.length - st.toNat) ⟨0, by omega, rfl, rfl⟩ ?_
  rintro X _ _ ⟨i, hi, rfl, rfl⟩ hX
  by_cases hlt : i < xss.length
  · rw [if_pos (by simp [hm]; omega)]
    have hlt2 : i < sls.length := by omega
    refine idxLoadN h1.rd.rd (by kernel_rfl) (k := .slice) (sls[i]'hlt2) (by rw [List.getElem?_map, List.getElem?_eq_getElem hlt2]; rfl) ?_
    refine hr.idx (by kernel_rfl) hlt fun s1 r1 _ => ?_
    have hl := h3 i _ _ (List.getElem?_eq_getElem hlt2) (List.getElem?_eq_getElem hlt)
    refine ⟨_, KeptBytes_spec _ s1 _ hl.lent r1.rd (by have := hx _ (List.getElem_mem hlt); omega) ⟨rfl, rfl⟩, ?_⟩
    try dsimp only
    rw [if_neg (by simp), wrapSucc (by omega)]
    exact hX _ _ ⟨i + 1, by omega, rfl, rfl⟩ (by simp; omega)
  · rw [if_neg (by simp [hm]; omega)]
    exact H
end Go.Proofs.YtafjmdeldejonaaGreat
