/-
  The statements of layer 17, their parts: deeds, sizes, what is put and read again.
-/
import Derived.Test.YtejpfoccooodbaaKLaw17
import Derived.Test.YtejpfoccooodbaaKFields
set_option linter.unusedSimpArgs false
set_option linter.unusedVariables false
namespace Go.Proofs.Ytejpfoccooodbaa
open Go Go.Ev

/-- A deed of the statement. -/
abbrev ShDeed17 : Sh := .pair (.int .i64) (.pair (.sl (.int .i64)) (.pair (.sl (.arr 32 (.int .u8))) (.pair (.sl (.sl (.int .u8))) .unit)))
abbrev Deed17 := Int × List Int × List (List Int) × List (List Int) × Unit
abbrev Deed17.what (d : Deed17) : Int := d.1
abbrev Deed17.nums (d : Deed17) : List Int := d.2.1
abbrev Deed17.tags (d : Deed17) : List (List Int) := d.2.2.1
abbrev Deed17.runs (d : Deed17) : List (List Int) := d.2.2.2.1
def size17 (d : Deed17) : Nat := d.nums.length + 32 * d.tags.length + d.runs.length + total d.runs
def sizes17 (l : List Deed17) : Nat := l.length + (l.map size17).sum

theorem LayC.deed17 {g : GH} {c : Nat} {d : Deed17} {cs : List Value} (l : LayC g c ShDeed17 d cs) : ∃ vn vt vr : Sl, cs = [.int .i64 d.what, slV vn, slV vt, slV vr] ∧ SlC g c (.int .i64) vn d.nums ∧ SlC g c ShTag vt d.tags ∧ SlC g c (.sl (.int .u8)) vr d.runs ∧
    (-9223372036854775808 ≤ d.what ∧ d.what ≤ 9223372036854775807) := by
  obtain ⟨c1, c2, rfl, ⟨rfl, h1⟩, c3, c4, rfl, l2, c5, c6, rfl, l3, c7, c8, rfl, l4, rfl⟩ := l
  obtain ⟨vn, rfl, h2⟩ := l2.sl
  obtain ⟨vt, rfl, h3⟩ := l3.sl
  obtain ⟨vr, rfl, h4⟩ := l4.sl
  exact ⟨vn, vt, vr, rfl, h2, h3, h4, h1⟩
theorem sizeDeed17 : sizeOfT Try.prog T.zugzwanglaw17_Deed = 4 := by kernel_rfl
theorem sumTake {l : List Nat} {i : Nat} (h : i < l.length) : (l.take (i + 1)).sum = (l.take i).sum + l[i] := by
  rw [List.take_succ_eq_append_getElem h, List.sum_append]; simp

theorem size17_spec {g : GH} {c : Nat} (v : Sl) (l : List Deed17) (hl : SlC g c ShDeed17 v l) {R : Value → Heap → Prop} (H : ∀ n : Nat, (n ≤ 3000 → sizes17 l ≤ 3000) → R (.int .i64 (n : Int)) g.h) :
    HC Try.prog F.law17_size #[.slice v.a v.n v.c] R g.h := by
  refine law17_size.calls (l0 := v) ?_
  unfold law17_size.body
  have hn := hl.len
  have hs := hl.small
  refine loopW_rule (fun st h' => ∃ i n : Nat, i ≤ l.length ∧ st = ((n : Int), (i : Int)) ∧ g.h = h' ∧ n ≤ 10000000000000000 ∧ (n ≤ 3000 → n = l.length + ((l.map size17).take i).sum)) (fun st => l.length - st.2.toNat)
    ⟨0, v.n, by omega, by rfl, rfl, by omega, by simp [hn]⟩ ?_
  rintro X _ _ ⟨i, n, hi, rfl, rfl, hb, hq⟩ hX
  try dsimp only
  by_cases hlt : i < l.length
  · rw [if_pos (by first | omega | (simp [hn]; omega))]
    by_cases hm : n ≤ 3000
    · rw [if_pos (by first | omega | (simp; omega))]
      have hq' := hq hm
      have hst := sumTake (l := l.map size17) (i := i) (by simpa using hlt)
      rw [List.getElem_map] at hst
      refine hl.idx (sizeDeed17.trans rfl) (by decide) hlt fun b o cs rc lay => ?_
      obtain ⟨vn, vt, vr, rfl, hvn, hvt, hvr, _⟩ := LayC.deed17 lay
      have n1 := hvn.len
      have n2 := hvt.len
      have n3 := hvr.len
      have s1 := hvn.small
      have s2 := hvt.small
      have s3 := hvr.small
      try simp only [derefK_some, fldK_some, Nat.zero_add, Nat.add_zero, Nat.reduceAdd, inj_int, inj_bool, inj_str, inj_ptr, inj_map, inj_slice, exists_eq_left, List.getElem?_toArray, List.getElem?_cons_zero, List.getElem?_cons_succ, Option.isNone_some, Option.isNone_none, Bool.not_true, Bool.not_false, Bool.false_eq_true, if_true, if_false, reduceIte, eq_self, not_true_eq_false, not_false_eq_true, bne_self_eq_false, beq_self_eq_true, decide_true, decide_false, decide_eq_true_eq, beq_iff_eq, bne_iff_ne, ne_eq]
      refine loadK_cells rc (k := .slice) (j := 1) vn rfl rfl ?_
      refine hl.idx (sizeDeed17.trans rfl) (by decide) hlt fun b o cs rc lay => ?_
      obtain ⟨vn', vt', vr', rfl, hvn', hvt', hvr', _⟩ := LayC.deed17 lay
      have n2' := hvt'.len
      try simp only [derefK_some, fldK_some, Nat.zero_add, Nat.add_zero, Nat.reduceAdd, inj_int, inj_bool, inj_str, inj_ptr, inj_map, inj_slice, exists_eq_left, List.getElem?_toArray, List.getElem?_cons_zero, List.getElem?_cons_succ, Option.isNone_some, Option.isNone_none, Bool.not_true, Bool.not_false, Bool.false_eq_true, if_true, if_false, reduceIte, eq_self, not_true_eq_false, not_false_eq_true, bne_self_eq_false, beq_self_eq_true, decide_true, decide_false, decide_eq_true_eq, beq_iff_eq, bne_iff_ne, ne_eq]
      refine loadK_cells rc (k := .slice) (j := 2) vt' rfl rfl ?_
      refine hl.idx (sizeDeed17.trans rfl) (by decide) hlt fun b o cs rc lay => ?_
      obtain ⟨vn'', vt'', vr'', rfl, hvn'', hvt'', hvr'', _⟩ := LayC.deed17 lay
      have n3' := hvr''.len
      try simp only [derefK_some, fldK_some, Nat.zero_add, Nat.add_zero, Nat.reduceAdd, inj_int, inj_bool, inj_str, inj_ptr, inj_map, inj_slice, exists_eq_left, List.getElem?_toArray, List.getElem?_cons_zero, List.getElem?_cons_succ, Option.isNone_some, Option.isNone_none, Bool.not_true, Bool.not_false, Bool.false_eq_true, if_true, if_false, reduceIte, eq_self, not_true_eq_false, not_false_eq_true, bne_self_eq_false, beq_self_eq_true, decide_true, decide_false, decide_eq_true_eq, beq_iff_eq, bne_iff_ne, ne_eq]
      refine loadK_cells rc (k := .slice) (j := 3) vr'' rfl rfl ?_
      have hds : size17 l[i] = l[i].nums.length + 32 * l[i].tags.length + l[i].runs.length + total l[i].runs := rfl
      rw [wrapI64 (n := (n : Int) + (vn.n : Int)) (by omega) (by omega), wrapI64 (n := 32 * (vt'.n : Int)) (by omega) (by omega), wrapI64 (n := (n : Int) + (vn.n : Int) + 32 * (vt'.n : Int)) (by omega) (by omega), wrapI64 (n := (n : Int) + (vn.n : Int) + 32 * (vt'.n : Int) + (vr''.n : Int)) (by omega) (by omega)]
      refine loopW_rule (fun st h' => ∃ k n2 : Nat, k ≤ l[i].runs.length ∧ st = ((n2 : Int), (k : Int)) ∧ g.h = h' ∧ n2 ≤ 10000000000000000 ∧ (n2 ≤ 3000 → n2 = n + l[i].nums.length + 32 * l[i].tags.length + l[i].runs.length + total (l[i].runs.take k))) (fun st => l[i].runs.length - st.2.toNat)
        ⟨0, n + vn.n + 32 * vt'.n + vr''.n, by omega, by simp, rfl, by omega, by simp [total]; omega⟩ ?_
      rintro Y _ _ ⟨k, n2, hk, rfl, rfl, hb2, hq2⟩ hY
      have htl := total_le (xss := l[i].runs) k
      try dsimp only
      refine hl.idx (sizeDeed17.trans rfl) (by decide) hlt fun b o cs rc lay => ?_
      obtain ⟨vn3, vt3, vr3, rfl, hvn3, hvt3, hvr3, _⟩ := LayC.deed17 lay
      have hwn := hvr3.len
      try simp only [derefK_some, fldK_some, Nat.zero_add, Nat.add_zero, Nat.reduceAdd, inj_int, inj_bool, inj_str, inj_ptr, inj_map, inj_slice, exists_eq_left, List.getElem?_toArray, List.getElem?_cons_zero, List.getElem?_cons_succ, Option.isNone_some, Option.isNone_none, Bool.not_true, Bool.not_false, Bool.false_eq_true, if_true, if_false, reduceIte, eq_self, not_true_eq_false, not_false_eq_true, bne_self_eq_false, beq_self_eq_true, decide_true, decide_false, decide_eq_true_eq, beq_iff_eq, bne_iff_ne, ne_eq]
      refine loadK_cells rc (k := .slice) (j := 3) vr3 rfl rfl ?_
      by_cases hkl : k < l[i].runs.length
      · rw [if_pos (by first | omega | (simp [hwn]; omega))]
        by_cases hm2 : n2 ≤ 3000
        · rw [if_pos (by first | omega | (simp; omega))]
          refine hl.idx (sizeDeed17.trans rfl) (by decide) hlt fun b o cs rc lay => ?_
          obtain ⟨vn4, vt4, vr4, rfl, hvn4, hvt4, hvr4, _⟩ := LayC.deed17 lay
          obtain ⟨hrow, hby, hlen⟩ := hvr4.rows
          try simp only [derefK_some, fldK_some, Nat.zero_add, Nat.add_zero, Nat.reduceAdd, inj_int, inj_bool, inj_str, inj_ptr, inj_map, inj_slice, exists_eq_left, List.getElem?_toArray, List.getElem?_cons_zero, List.getElem?_cons_succ, Option.isNone_some, Option.isNone_none, Bool.not_true, Bool.not_false, Bool.false_eq_true, if_true, if_false, reduceIte, eq_self, not_true_eq_false, not_false_eq_true, bne_self_eq_false, beq_self_eq_true, decide_true, decide_false, decide_eq_true_eq, beq_iff_eq, bne_iff_ne, ne_eq]
          refine loadK_cells rc (k := .slice) (j := 3) vr4 rfl rfl ?_
          refine hrow.idx (by kernel_rfl) hkl fun s1 r1 _ => ?_
          have h1 := r1.len
          have h2 := total_take hkl
          have h3 := hlen _ (List.getElem_mem hkl)
          simp at h1
          rw [wrapSucc (by omega), wrapI64 (by omega) (by omega)]
          exact hY _ _ ⟨k + 1, n2 + s1.n, by omega, by simp, rfl, by omega, fun h => by rw [h2]; have := hq2 hm2; omega⟩ (by simp; omega)
        · rw [if_neg (by first | omega | (simp; omega)), wrapSucc (by omega)]
          exact hX _ _ ⟨i + 1, n2, by omega, rfl, rfl, hb2, fun h => absurd h hm2⟩ (by simp; omega)
      · rw [if_neg (by first | omega | (simp [hwn]; omega)), wrapSucc (by omega)]
        have hk' : k = l[i].runs.length := by omega
        subst hk'
        rw [List.take_length] at hq2
        exact hX _ _ ⟨i + 1, n2, by omega, rfl, rfl, hb2, fun h => by rw [hst]; have := hq2 h; omega⟩ (by simp; omega)
    · rw [if_neg (by first | omega | (simp; omega))]
      exact H n (fun h => absurd h hm)
  · rw [if_neg (by first | omega | (simp [hn]; omega))]
    have hi' : i = l.length := by omega
    subst hi'
    have ht : (l.map size17).take l.length = l.map size17 := List.take_of_length_le (by simp)
    rw [ht] at hq
    exact H n (fun h => by unfold sizes17; have := hq h; omega)

/-! ### A deed's fields are put, and read again -/

def putD (st : Int × List Int) (d : Deed17) : Int × List Int :=
  if d.what % 4 = 0 then putAll (within 255) oneB st d.nums else if d.what % 4 = 1 then putAll (within 4294967295) fourB st d.nums else if d.what % 4 = 2 then putAll yes tagB st d.tags else putAll yes runB st d.runs

theorem put17_spec {g : GH} {kp kb c p : Nat} {e : Int} {bs : List Int} (hk : kp ≠ kb) (hcp : c ≠ kp) (hcb : c ≠ kb) (hw : WrC g kp kb p e bs) (d : Deed17) (cs : List Value) (lay : LayC g c ShDeed17 d cs) (hs : size17 d ≤ 1000000) {R : Value → Heap → Prop}
    (H : ∀ g' : GH, Mv [kp, kb] g g' → WrC g' kp kb p (putD (e, bs) d).1 (putD (e, bs) d).2 → R (.int .i64 (putD (e, bs) d).1) g'.h) : HC Try.prog F.law17_put #[.pointer (some ⟨p, 0, none⟩), .agg ⟨cs⟩] R g.h := by
  refine law17_put.calls ?_
  unfold law17_put.body
  obtain ⟨vn, vt, vr, rfl, hvn, hvt, hvr, hwh⟩ := LayC.deed17 lay
  obtain ⟨x, hxp, hxb⟩ : ∃ x, x ≠ kp ∧ x ≠ kb := ⟨kp + kb + 1, by omega, by omega⟩
  refine new_C g x fun dp q1 m1 b1 => ?_
  replace hw := hw.mv m1 (by simp) (by simp)
  replace hvn := hvn.mv m1 (by simp)
  replace hvt := hvt.mv m1 (by simp)
  replace hvr := hvr.mv m1 (by simp)
  have hsz : size17 d = d.nums.length + 32 * d.tags.length + d.runs.length + total d.runs := rfl
  have hx4 : d.what % 4 = 0 ∨ d.what % 4 = 1 ∨ d.what % 4 = 2 ∨ d.what % 4 = 3 := by omega
  rw [fldK_some, loadK_C b1]
  refine ⟨d.what, rfl, ?_⟩
  refine Pick_spec d.what 4 hwh (by decide) ⟨_, rfl, ?_⟩
  have hH : ∀ g' : GH, Mv [kp, kb] q1 g' → WrC g' kp kb p (putD (e, bs) d).1 (putD (e, bs) d).2 → R (.int .i64 (putD (e, bs) d).1) g'.h := fun g' m w => H g' ((m1.trans m).mono (by simp)) w
  unfold putD at hH
  try dsimp only
  rcases hx4 with h | h | h | h <;> rw [h] at hH ⊢
  · rw [if_pos (by rfl), fldK_some, loadK_C b1]
    refine ⟨vn, rfl, ?_⟩
    rw [if_pos rfl] at hH
    exact wByte_spec hk hcp hcb hw vn d.nums hvn.ints.1 (by omega) fun g' m w => ⟨_, rfl, hH g' m w⟩
  · rw [if_neg (by simp), if_pos (by rfl), fldK_some, loadK_C b1]
    refine ⟨vn, rfl, ?_⟩
    rw [if_neg (by decide), if_pos rfl] at hH
    exact wNumber_spec hk hcp hcb hw vn d.nums hvn.ints.1 (by omega) fun g' m w => ⟨_, rfl, hH g' m w⟩
  · rw [if_neg (by simp), if_neg (by simp), if_pos (by rfl), fldK_some, loadK_C b1]
    refine ⟨vt, rfl, ?_⟩
    rw [if_neg (by decide), if_neg (by decide), if_pos rfl] at hH
    exact wTag_spec hk hcp hcb hw vt d.tags hvt (by omega) fun g' m w => ⟨_, rfl, hH g' m w⟩
  · rw [if_neg (by simp), if_neg (by simp), if_neg (by simp), fldK_some, loadK_C b1]
    refine ⟨vr, rfl, ?_⟩
    rw [if_neg (by decide), if_neg (by decide), if_neg (by decide)] at hH
    refine wRun_spec hk hcp hcb hw vr d.runs hvr.rows.1 (fun x hx => ?_) (by omega) fun g' m w => ⟨_, rfl, hH g' m w⟩
    have : x.length ≤ total d.runs := by unfold total; rw [List.length_flatten]; exact le_of_mem_sum (List.mem_map.2 ⟨x, hx, rfl⟩)
    omega

def backL {α : Type} [DecidableEq α] (rd : Bool × Nat → α × Bool × Nat) : Bool × Nat → List α → Bool × Bool × Nat
  | st, [] => (true, st)
  | st, x :: xs => if (rd st).1 = x then backL rd (rd st).2 xs else (false, (rd st).2)
def backD (bs : List Int) (st : Bool × Nat) (d : Deed17) : Bool × Bool × Nat :=
  if d.what % 4 = 0 then backL (byteR bs) st d.nums else if d.what % 4 = 1 then backL (numR bs) st d.nums else if d.what % 4 = 2 then backL (tagR bs) st d.tags else backL (runR bs) st d.runs
theorem RdrC.pos_le {g : GH} {kp kb p : Nat} {st : Bool × Nat} {bs : List Int} (r : RdrC g kp kb p st bs) : st.2 ≤ bs.length := by obtain ⟨_, _, _, _, h, _⟩ := r; exact h
theorem RdrC.len_le {g : GH} {kp kb p : Nat} {st : Bool × Nat} {bs : List Int} (r : RdrC g kp kb p st bs) : bs.length ≤ 1000000000 := by obtain ⟨_, _, _, _, _, h, _⟩ := r; exact h
theorem RdrC.byte {g : GH} {kp kb p : Nat} {st : Bool × Nat} {bs : List Int} (r : RdrC g kp kb p st bs) : ∀ x ∈ bs, isByte x := by obtain ⟨_, _, _, _, _, _, h⟩ := r; exact h

set_option maxHeartbeats 1000000 in
theorem back17_spec {g : GH} {kp kb c p : Nat} {st : Bool × Nat} {bs : List Int} (hk : kp ≠ kb) (hcp : c ≠ kp) (hd : RdrC g kp kb p st bs) (d : Deed17) (cs : List Value) (lay : LayC g c ShDeed17 d cs) (hs : size17 d ≤ 1000000) {R : Value → Heap → Prop}
    (H : ∀ g' : GH, Mv [kp] g g' → RdrC g' kp kb p (backD bs st d).2 bs → R (.bool (backD bs st d).1) g'.h) : HC Try.prog F.law17_back #[.pointer (some ⟨p, 0, none⟩), .agg ⟨cs⟩] R g.h := by
  refine law17_back.calls ?_
  unfold law17_back.body
  obtain ⟨vn, vt, vr, rfl, hvn, hvt, hvr, hwh⟩ := LayC.deed17 lay
  obtain ⟨x, hxp, hxb⟩ : ∃ x, x ≠ kp ∧ x ≠ kb := ⟨kp + kb + 1, by omega, by omega⟩
  have hsz : size17 d = d.nums.length + 32 * d.tags.length + d.runs.length + total d.runs := rfl
  refine new_C g x fun dp q1 m1 b1 => ?_
  have m : Mv [kp] g q1 := m1.mono (by simp)
  replace hd := hd.mv m1 (by simp) (by simp)
  have hx4 : d.what % 4 = 0 ∨ d.what % 4 = 1 ∨ d.what % 4 = 2 ∨ d.what % 4 = 3 := by omega
  rw [fldK_some, loadK_C b1]
  refine ⟨d.what, rfl, ?_⟩
  refine Pick_spec d.what 4 hwh (by decide) ⟨_, rfl, ?_⟩
  unfold backD at H
  try dsimp only
  rcases hx4 with h | h | h | h <;> rw [h] at H ⊢
  · rw [if_pos (by rfl)]
    rw [if_pos rfl] at H
    refine loopW_rule (fun s h' => ∃ (i : Nat) (q : GH) (st' : Bool × Nat), i ≤ d.nums.length ∧ s = (i : Int) ∧ h' = q.h ∧ Mv [kp] g q ∧ Mv [kp] q1 q ∧ RdrC q kp kb p st' bs ∧ backL (byteR bs) st d.nums = backL (byteR bs) st' (d.nums.drop i)) (fun s => d.nums.length - s.toNat)
      ⟨0, q1, st, by omega, rfl, rfl, m, Mv.refl _ _, hd, by simp⟩ ?_
    rintro X _ _ ⟨i, q, st', hi, rfl, rfl, m, m', hd, he⟩ hX
    replace b1 := b1.mv m' (by simp [hxp])
    have hv := (hvn.mv m (by simp [hcp]))
    rw [fldK_some, loadK_C b1]
    refine ⟨vn, rfl, ?_⟩
    have hvl := hv.len
    by_cases hlt : i < d.nums.length
    · rw [if_pos (by first | omega | (simp; omega)), fldK_some, loadK_C b1]
      refine ⟨vn, rfl, ?_⟩
      rw [List.drop_eq_getElem_cons hlt, backL] at he
      have hvi := hv.ints.1
      have hne : d.nums.map (Value.int .i64) ≠ [] := by intro e; rw [List.map_eq_nil_iff] at e; rw [e] at hlt; simp at hlt
      obtain ⟨bb, oo, hcs, hidx⟩ := hvi.at_ hne zInt
      refine hidx _ _ (by omega) (by simp; omega) ?_
      rw [Int.toNat_natCast]
      refine loadK_cells hcs (k := .int .i64) (j := i) d.nums[i] rfl (getElem?_map_at _ hlt) ?_
      refine rByte_spec hk hd fun q2 m2 hd2 => ⟨_, rfl, ?_⟩
      refine ⟨stillK_cells (hcs.mv m2 (by simp [hcp])) (j := i) rfl (getElem?_map_at _ hlt), stillK_C (b1.mv m2 (by simp [hxp])) rfl, ?_⟩
      try dsimp only
      by_cases hx : (byteR bs st').1 = d.nums[i]
      · rw [if_pos hx] at he
        rw [if_neg (by simp [hx]), wrapSucc (by omega)]
        exact hX _ _ ⟨i + 1, q2, _, by omega, rfl, rfl, m.step m2 (by simp), m'.step m2 (by simp), hd2, he⟩ (by simp; omega)
      · rw [if_neg hx] at he
        rw [if_pos (by simpa using hx)]
        rw [he] at H
        exact H q2 (m.step m2 (by simp)) hd2
    · rw [if_neg (by first | omega | (simp; omega))]
      rw [List.drop_eq_nil_of_le (by omega), backL] at he
      rw [he] at H
      exact H q m hd
  · rw [if_neg (by simp), if_pos (by rfl)]
    rw [if_neg (by decide), if_pos rfl] at H
    refine loopW_rule (fun s h' => ∃ (i : Nat) (q : GH) (st' : Bool × Nat), i ≤ d.nums.length ∧ s = (i : Int) ∧ h' = q.h ∧ Mv [kp] g q ∧ Mv [kp] q1 q ∧ RdrC q kp kb p st' bs ∧ backL (numR bs) st d.nums = backL (numR bs) st' (d.nums.drop i)) (fun s => d.nums.length - s.toNat)
      ⟨0, q1, st, by omega, rfl, rfl, m, Mv.refl _ _, hd, by simp⟩ ?_
    rintro X _ _ ⟨i, q, st', hi, rfl, rfl, m, m', hd, he⟩ hX
    replace b1 := b1.mv m' (by simp [hxp])
    have hv := (hvn.mv m (by simp [hcp]))
    rw [fldK_some, loadK_C b1]
    refine ⟨vn, rfl, ?_⟩
    have hvl := hv.len
    by_cases hlt : i < d.nums.length
    · rw [if_pos (by first | omega | (simp; omega)), fldK_some, loadK_C b1]
      refine ⟨vn, rfl, ?_⟩
      rw [List.drop_eq_getElem_cons hlt, backL] at he
      have hvi := hv.ints.1
      have hne : d.nums.map (Value.int .i64) ≠ [] := by intro e; rw [List.map_eq_nil_iff] at e; rw [e] at hlt; simp at hlt
      obtain ⟨bb, oo, hcs, hidx⟩ := hvi.at_ hne zInt
      refine hidx _ _ (by omega) (by simp; omega) ?_
      rw [Int.toNat_natCast]
      refine loadK_cells hcs (k := .int .i64) (j := i) d.nums[i] rfl (getElem?_map_at _ hlt) ?_
      refine rNumber_spec hk hd fun q2 m2 hd2 => ⟨_, rfl, ?_⟩
      refine ⟨stillK_cells (hcs.mv m2 (by simp [hcp])) (j := i) rfl (getElem?_map_at _ hlt), stillK_C (b1.mv m2 (by simp [hxp])) rfl, ?_⟩
      try dsimp only
      by_cases hx : (numR bs st').1 = d.nums[i]
      · rw [if_pos hx] at he
        rw [if_neg (by simp [hx]), wrapSucc (by omega)]
        exact hX _ _ ⟨i + 1, q2, _, by omega, rfl, rfl, m.step m2 (by simp), m'.step m2 (by simp), hd2, he⟩ (by simp; omega)
      · rw [if_neg hx] at he
        rw [if_pos (by simpa using hx)]
        rw [he] at H
        exact H q2 (m.step m2 (by simp)) hd2
    · rw [if_neg (by first | omega | (simp; omega))]
      rw [List.drop_eq_nil_of_le (by omega), backL] at he
      rw [he] at H
      exact H q m hd
  · rw [if_neg (by simp), if_neg (by simp), if_pos (by rfl)]
    rw [if_neg (by decide), if_neg (by decide), if_pos rfl] at H
    refine loopW_rule (fun s h' => ∃ (i : Nat) (q : GH) (st' : Bool × Nat), i ≤ d.tags.length ∧ s = (i : Int) ∧ h' = q.h ∧ Mv [kp] g q ∧ Mv [kp] q1 q ∧ RdrC q kp kb p st' bs ∧ backL (tagR bs) st d.tags = backL (tagR bs) st' (d.tags.drop i)) (fun s => d.tags.length - s.toNat)
      ⟨0, q1, st, by omega, rfl, rfl, m, Mv.refl _ _, hd, by simp⟩ ?_
    rintro X _ _ ⟨i, q, st', hi, rfl, rfl, m, m', hd, he⟩ hX
    replace b1 := b1.mv m' (by simp [hxp])
    have hv := (hvt.mv m (by simp [hcp]))
    rw [fldK_some, loadK_C b1]
    refine ⟨vt, rfl, ?_⟩
    have hvl := hv.len
    by_cases hlt : i < d.tags.length
    · rw [if_pos (by first | omega | (simp; omega)), fldK_some, loadK_C b1]
      refine ⟨vt, rfl, ?_⟩
      rw [List.drop_eq_getElem_cons hlt, backL] at he
      refine hv.idx (by kernel_rfl) (by decide) hlt fun bb oo cs hcs lay => ?_
      obtain ⟨ecs, okx⟩ := LayC.enc (s := ShTag) rfl lay
      rw [encTag] at ecs
      subst ecs
      have hzl : (d.tags[i]).length = 32 := okx.1
      have hzb : ∀ x ∈ d.tags[i], isByte x := fun x hx => okx.2 x hx
      have hcell : (⟨((d.tags[i].map byV).drop 0).take (sizeOfT Try.prog T.api_Tag)⟩ : Array Value) = tagA d.tags[i] := by
        rw [szTag, List.drop_zero, List.take_of_length_le (by simp [hzl])]
      refine loadAggK_cells (j := 0) hcs rfl (by rw [szTag]; decide) (by rw [szTag]; simp [hzl]) ?_
      rw [hcell]
      refine rTag_spec hk hd fun q2 m2 hd2 => ⟨_, rfl, ?_⟩
      refine ⟨?_, stillK_C (b1.mv m2 (by simp [hxp])) rfl, ?_⟩
      · refine loadAggK_cells (j := 0) (hcs.mv m2 (by simp [hcp])) rfl (by rw [szTag]; decide) (by rw [szTag]; simp [hzl]) ?_
        rw [hcell]
      have hsb := hd.pos_le
      refine tag_neq (tagR_len hsb) (tagR_byte hd.byte) hzl hzb ?_
      by_cases hx : (tagR bs st').1 = d.tags[i]
      · rw [if_pos hx] at he
        rw [if_neg (by simp [hx]), wrapSucc (by omega)]
        exact hX _ _ ⟨i + 1, q2, _, by omega, rfl, rfl, m.step m2 (by simp), m'.step m2 (by simp), hd2, he⟩ (by simp; omega)
      · rw [if_neg hx] at he
        rw [if_pos (by simpa using hx)]
        rw [he] at H
        exact H q2 (m.step m2 (by simp)) hd2
    · rw [if_neg (by first | omega | (simp; omega))]
      rw [List.drop_eq_nil_of_le (by omega), backL] at he
      rw [he] at H
      exact H q m hd
  · rw [if_neg (by simp), if_neg (by simp), if_neg (by simp), if_pos (by rfl)]
    rw [if_neg (by decide), if_neg (by decide), if_neg (by decide)] at H
    refine loopW_rule (fun s h' => ∃ (i : Nat) (q : GH) (st' : Bool × Nat), i ≤ d.runs.length ∧ s = (i : Int) ∧ h' = q.h ∧ Mv [kp] g q ∧ Mv [kp] q1 q ∧ RdrC q kp kb p st' bs ∧ backL (runR bs) st d.runs = backL (runR bs) st' (d.runs.drop i)) (fun s => d.runs.length - s.toNat)
      ⟨0, q1, st, by omega, rfl, rfl, m, Mv.refl _ _, hd, by simp⟩ ?_
    rintro X _ _ ⟨i, q, st', hi, rfl, rfl, m, m', hd, he⟩ hX
    replace b1 := b1.mv m' (by simp [hxp])
    have hv := (hvr.mv m (by simp [hcp]))
    rw [fldK_some, loadK_C b1]
    refine ⟨vr, rfl, ?_⟩
    have hvl := hv.len
    by_cases hlt : i < d.runs.length
    · rw [if_pos (by first | omega | (simp; omega)), fldK_some, loadK_C b1]
      refine ⟨vr, rfl, ?_⟩
      rw [List.drop_eq_getElem_cons hlt, backL] at he
      obtain ⟨sls, hsl, hsll, hrows⟩ := hv.rows.1
      have hli : i < sls.length := by omega
      have hne : sls.map slV ≠ [] := by intro e; rw [List.map_eq_nil_iff] at e; rw [e] at hli; simp at hli
      have hget : (sls.map slV)[i]? = some (Kd.inj .slice sls[i]) := by rw [List.getElem?_map, List.getElem?_eq_getElem hli]; rfl
      obtain ⟨bb, oo, hcs, hidx⟩ := hsl.at_ hne (sz := sizeOfT Try.prog T.sl_uint8) (by kernel_rfl)
      refine hidx _ _ (by omega) (by simp; omega) ?_
      rw [Int.toNat_natCast]
      refine loadK_cells hcs (k := .slice) (j := i) _ rfl hget ?_
      obtain ⟨hri, hrc⟩ := hrows i _ _ (List.getElem?_eq_getElem hli) (List.getElem?_eq_getElem hlt)
      have hril := hv.rows.2.2 _ (List.getElem_mem hlt)
      refine rRun_spec x hk hd fun s2 q2 m2 hd2 o2 => ⟨_, rfl, ?_⟩
      refine ⟨stillK_cells (hcs.mv m2 (by simp [hcp])) (j := i) rfl hget, stillK_C (b1.mv m2 (by simp [hxp])) rfl, ?_⟩
      have hbl := hd.len_le
      have hrr := runR_len (bs := bs) (st := st')
      refine SameBytes_spec s2 _ _ _ o2.rd.rd (hri.mv m2 (by simp [hcp])).rd (by omega) (by omega) ⟨_, rfl, ?_⟩
      try dsimp only
      by_cases hx : (runR bs st').1 = d.runs[i]
      · rw [if_pos hx] at he
        rw [if_neg (by simp [hx]), wrapSucc (by omega)]
        exact hX _ _ ⟨i + 1, q2, _, by omega, rfl, rfl, m.step m2 (by simp), m'.step m2 (by simp), hd2, he⟩ (by simp; omega)
      · rw [if_neg hx] at he
        rw [if_pos (by simpa using hx)]
        rw [he] at H
        exact H q2 (m.step m2 (by simp)) hd2
    · rw [if_neg (by first | omega | (simp; omega))]
      rw [List.drop_eq_nil_of_le (by omega), backL] at he
      rw [he] at H
      exact H q m hd

end Go.Proofs.Ytejpfoccooodbaa
