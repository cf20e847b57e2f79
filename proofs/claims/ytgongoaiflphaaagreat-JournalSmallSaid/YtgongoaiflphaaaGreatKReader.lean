/-
  The package codec: contracts of its functions. Readers.
-/
import Derived.Test.YtgongoaiflphaaaGreatKCodec
set_option linter.unusedSimpArgs false
set_option linter.unusedVariables false
namespace Go.Proofs.YtgongoaiflphaaaGreat
open Go Go.Ev

/-! ### In plain Lean -/

/-- So many bytes are taken, if they stand there: what is read; whether it is spoilt, and where it stands. -/
def nextR (bs : List Int) (st : Bool × Nat) (n : Nat) : List Int × Bool × Nat :=
  if st.1 = true then ([], st) else if n ≤ bs.length - st.2 then ((bs.drop st.2).take n, (false, st.2 + n)) else ([], (true, st.2))
def numOf (b : List Int) : Int := b.foldl (fun n c => 256 * n + c) 0
def numR (bs : List Int) (st : Bool × Nat) : Int × Bool × Nat := (numOf (nextR bs st 4).1, (nextR bs st 4).2)
def runR (bs : List Int) (st : Bool × Nat) : List Int × Bool × Nat :=
  match numR bs st with
  | (n, st1) => match nextR bs st1 n.toNat with
    | (b, st2) => if st2.1 = true then ([], (true, st.2)) else (b, st2)

theorem nextR_le {bs : List Int} {st : Bool × Nat} {n : Nat} (h : st.2 ≤ bs.length) : (nextR bs st n).2.2 ≤ bs.length := by
  unfold nextR
  split
  · exact h
  · split
    · show st.2 + n ≤ bs.length; omega
    · exact h
theorem nextR_len {bs : List Int} {st : Bool × Nat} {n : Nat} (h : st.2 ≤ bs.length) : (nextR bs st n).1.length ≤ n := by
  unfold nextR
  split
  · simp
  · split
    · simp; omega
    · simp
theorem nextR_len' {bs : List Int} {st : Bool × Nat} {n : Nat} : (nextR bs st n).1.length ≤ bs.length := by
  unfold nextR
  split
  · simp
  · split
    · simp; omega
    · simp
theorem nextR_byte {bs : List Int} {st : Bool × Nat} {n : Nat} (h : ∀ x ∈ bs, isByte x) : ∀ x ∈ (nextR bs st n).1, isByte x := by
  intro x hx
  unfold nextR at hx
  split at hx
  · simp at hx
  · split at hx
    · exact h x (List.mem_of_mem_drop (List.mem_of_mem_take hx))
    · simp at hx
theorem foldNum : ∀ (b : List Int) (a k : Int), (∀ x ∈ b, isByte x) → 0 ≤ a → a < k → 0 ≤ b.foldl (fun n c => 256 * n + c) a ∧ b.foldl (fun n c => 256 * n + c) a < k * 256 ^ b.length
  | [], a, k, _, h1, h2 => by simpa using ⟨h1, h2⟩
  | c :: b, a, k, hb, h1, h2 => by
    have hc := hb c List.mem_cons_self
    unfold isByte at hc
    have h := foldNum b (256 * a + c) (k * 256) (fun x hx => hb x (List.mem_cons_of_mem _ hx)) (by omega) (by omega)
    rw [List.foldl_cons, List.length_cons, Int.pow_succ, Int.mul_comm (256 ^ b.length) 256, ← Int.mul_assoc]
    exact h
theorem pow256 (k : Nat) : (256 : Int) ^ k = ((256 ^ k : Nat) : Int) := by rw [Int.natCast_pow]; rfl
theorem numOf_bound {b : List Int} (hb : ∀ x ∈ b, isByte x) : 0 ≤ numOf b ∧ numOf b < 256 ^ b.length := by
  have := foldNum b 0 1 hb (by omega) (by omega)
  simpa [numOf] using this
theorem numOf_lt4 {b : List Int} (hb : ∀ x ∈ b, isByte x) (hl : b.length ≤ 4) : 0 ≤ numOf b ∧ numOf b < 4294967296 := by
  obtain ⟨h1, h2⟩ := numOf_bound hb
  have := Nat.pow_le_pow_right (n := 256) (by decide) hl
  rw [pow256] at h2
  exact ⟨h1, by omega⟩
theorem numOf_append (b : List Int) (c : Int) : numOf (b ++ [c]) = 256 * numOf b + c := by simp [numOf, List.foldl_append]
theorem numR_le {bs : List Int} {st : Bool × Nat} (h : st.2 ≤ bs.length) : (numR bs st).2.2 ≤ bs.length := nextR_le h
theorem numR_bound {bs : List Int} {st : Bool × Nat} (h : st.2 ≤ bs.length) (hb : ∀ x ∈ bs, isByte x) : 0 ≤ (numR bs st).1 ∧ (numR bs st).1 < 4294967296 := numOf_lt4 (nextR_byte hb) (nextR_len h)
theorem runR_le {bs : List Int} {st : Bool × Nat} (h : st.2 ≤ bs.length) : (runR bs st).2.2 ≤ bs.length := by
  unfold runR
  dsimp only
  split
  · exact h
  · exact nextR_le (numR_le h)
theorem runR_len {bs : List Int} {st : Bool × Nat} : (runR bs st).1.length ≤ bs.length := by
  unfold runR
  dsimp only
  split
  · simp
  · exact nextR_len'
theorem runR_byte {bs : List Int} {st : Bool × Nat} (h : ∀ x ∈ bs, isByte x) : ∀ x ∈ (runR bs st).1, isByte x := by
  intro x hx
  unfold runR at hx
  dsimp only at hx
  split at hx
  · simp at hx
  · exact nextR_byte h x hx

theorem or64 {n c : Int} (hn : 0 ≤ n) (hn2 : n < 16777216) (hc : isByte c) : IntKind.i64.wrap ((BitVec.ofInt (IntKind.bits .i64) (IntKind.i64.wrap (n * 2 ^ min (Int.toNat 8) (IntKind.bits .i64))) ||| BitVec.ofInt (IntKind.bits .i64) (IntKind.i64.wrap c)).toNat : Int) = 256 * n + c := by
  unfold isByte at hc
  obtain ⟨a, rfl⟩ : ∃ a : Nat, n = a := ⟨n.toNat, by omega⟩
  obtain ⟨b, rfl⟩ : ∃ b : Nat, c = b := ⟨c.toNat, by omega⟩
  have h8 : ((2 : Int) ^ min (Int.toNat 8) (IntKind.bits .i64)) = 256 := by decide
  rw [h8, wrapI64 (n := (a : Int) * 256) (by omega) (by omega), wrapI64 (n := (b : Int)) (by omega) (by omega)]
  show IntKind.i64.wrap ((BitVec.ofInt 64 ((a : Int) * 256) ||| BitVec.ofInt 64 (b : Int)).toNat : Int) = _
  have e1 : BitVec.ofInt 64 ((a : Int) * 256) = BitVec.ofNat 64 (a <<< 8) := by
    apply BitVec.eq_of_toNat_eq
    rw [BitVec.toNat_ofInt, BitVec.toNat_ofNat, Nat.shiftLeft_eq]
    simp only [Nat.reducePow]
    omega
  have e2 : BitVec.ofInt 64 (b : Int) = BitVec.ofNat 64 b := by
    apply BitVec.eq_of_toNat_eq
    rw [BitVec.toNat_ofInt, BitVec.toNat_ofNat]
    simp only [Nat.reducePow]
    omega
  rw [e1, e2, BitVec.toNat_or, BitVec.toNat_ofNat, BitVec.toNat_ofNat, Nat.mod_eq_of_lt (by rw [Nat.shiftLeft_eq]; omega), Nat.mod_eq_of_lt (by omega), ← Nat.shiftLeft_add_eq_or_of_lt (by omega : b < 2 ^ 8), Nat.shiftLeft_eq, wrapI64 (by omega) (by omega)]
  omega

/-! ### Readers -/

/-- What spoilt a reader. -/
def badE (b : Bool) : Int := if b = true then 4 else 0
theorem badE_0 (b : Bool) : (badE b == 0) = !b := by cases b <;> rfl
/-- A reader: its place, whether it is spoilt, where it stands, its bytes. -/
def RdrC (g : GH) (kp kb p : Nat) (st : Bool × Nat) (bs : List Int) : Prop :=
  ∃ s : Sl, BlkC g kp p #[.bool true, .int .i64 (badE st.1), .slice s.a s.n s.c, .int .i64 (st.2 : Nat)] T.codec_Reader ∧ RdC 1 g kb s (bs.map byV) ∧ s.n ≤ s.c ∧ st.2 ≤ bs.length ∧ bs.length ≤ 1000000000 ∧ ∀ x ∈ bs, isByte x
theorem RdrC.mv {K : List Nat} {g g' : GH} {kp kb p : Nat} {st : Bool × Nat} {bs : List Int} (r : RdrC g kp kb p st bs) (m : Mv K g g') (h1 : kp ∉ K) (h2 : kb ∉ K) : RdrC g' kp kb p st bs := by
  obtain ⟨s, b, o, r⟩ := r
  exact ⟨s, b.mv m h1, o.mv m h2, r⟩
theorem RdrC.via {K : List Nat} {g q : GH} {kp kb p : Nat} {st : Bool × Nat} {bs : List Int} (r : RdrC q kp kb p st bs) (m : Mv K g.base q) (h1 : kp ≠ 0) (h2 : kb ≠ 0) (φ : Nat → Nat) : RdrC (g.via q φ) (φ kp) (φ kb) p st bs := by
  obtain ⟨s, b, o, r⟩ := r
  exact ⟨s, b.via m h1 φ, o.via m h2 φ, r⟩
theorem RdrC.re {K : List Nat} {g q : GH} {kp kb p : Nat} {st : Bool × Nat} {bs : List Int} (r : RdrC q kp kb p st bs) (m : Mv K g q) {φ : Nat → Nat} (h1 : φ kp = kp ∨ Fresh g kp) (h2 : φ kb = kb ∨ Fresh g kb) : RdrC (g.via q φ) (φ kp) (φ kb) p st bs := by
  obtain ⟨s, b, o, r⟩ := r
  exact ⟨s, b.re m h1, o.re m h2, r⟩
theorem RdrC.base {g : GH} {kp kb p : Nat} {st : Bool × Nat} {bs : List Int} (r : RdrC g kp kb p st bs) : RdrC g.base 0 0 p st bs := by
  obtain ⟨s, b, o, r⟩ := r
  exact ⟨s, b.base, o.base, r⟩

theorem read_spec (g : GH) (kp kb : Nat) {c : Nat} (v : Sl) (bs : List Int) (hr : RdC 1 g c v (bs.map byV)) (hl : bs.length ≤ 1000000000) (hby : ∀ x ∈ bs, isByte x) {R : Value → Heap → Prop}
    (H : ∀ (p : Nat) (g' : GH), Mv [] g g' → RdrC g' kp kb p (false, 0) bs → R (.pointer (some ⟨p, 0, none⟩)) g'.h) : HC Tryz.prog F.codec_Read #[.slice v.a v.n v.c] R g.h := by
  refine codec_Read.calls (b0 := v) ?_
  unfold codec_Read.body
  refine ⟨#[.bool true, .int .i64 0], fun w => by kernel_rfl, ?_⟩
  refine CloneBytes_spec g kb v bs hr.rd hl fun s1 g1 m1 o1 => ⟨_, rfl, ?_⟩
  refine ⟨#[.slice s1.a s1.n s1.c, .int .i64 0], fun w => by kernel_rfl, #[.bool true, .int .i64 0, .slice s1.a s1.n s1.c, .int .i64 0], fun w => by kernel_rfl, ?_⟩
  refine new_C g1 kp fun p g2 m2 b2 => ?_
  exact H p g2 ((m1.trans m2).mono (by simp)) ⟨s1, b2, o1.rd.mv m2 (by simp), o1.cap, Nat.zero_le _, hl, hby⟩

theorem has_spec {g : GH} {kp p pos : Nat} {e : Int} {s : Sl} (hb : BlkC g kp p #[.bool true, .int .i64 e, .slice s.a s.n s.c, .int .i64 (pos : Nat)] T.codec_Reader) (hs : s.n ≤ 1000000000) (hp : pos ≤ s.n) (n : Int) {R : Value → Heap → Prop} (H : R (.bool (decide (n ≤ ((s.n - pos : Nat) : Int)))) g.h) :
    HC Tryz.prog F.codec_place_has #[.pointer (some ⟨p, 2, none⟩), .int .i64 n] R g.h := by
  refine codec_place_has.calls ?_
  unfold codec_place_has.body
  simp only [derefK_some, fldK_some, Nat.zero_add, Nat.add_zero, Nat.reduceAdd, inj_int, inj_bool, inj_str, inj_ptr, inj_map, inj_slice, exists_eq_left, List.getElem?_toArray, List.getElem?_cons_zero, List.getElem?_cons_succ, Option.isNone_some, Option.isNone_none, Bool.not_true, Bool.not_false, Bool.false_eq_true, if_true, if_false, reduceIte, eq_self, not_true_eq_false, not_false_eq_true, bne_self_eq_false, beq_self_eq_true, decide_true, decide_false, decide_eq_true_eq, beq_iff_eq, bne_iff_ne, ne_eq, loadK_C hb]
  rw [wrapI64 (by omega) (by omega), show ((s.n : Int) - (pos : Int)) = ((s.n - pos : Nat) : Int) from by omega]
  exact H

theorem place_take_spec {g : GH} {kp kb p pos n : Nat} {e : Int} {s : Sl} {bs : List Int} (hk : kp ≠ kb) (hb : BlkC g kp p #[.bool true, .int .i64 e, .slice s.a s.n s.c, .int .i64 (pos : Nat)] T.codec_Reader) (hr : RdC 1 g kb s (bs.map byV)) (hc : s.n ≤ s.c) (hs : bs.length ≤ 1000000000) (hp : pos + n ≤ bs.length) {R : Value → Heap → Prop}
    (H : ∀ (s' : Sl) (g' : GH), Mv [kp] g g' → BlkC g' kp p #[.bool true, .int .i64 e, .slice s.a s.n s.c, .int .i64 ((pos + n : Nat) : Int)] T.codec_Reader → RdC 1 g' kb s' (((bs.drop pos).take n).map byV) → s'.n ≤ s'.c → R (.slice s'.a s'.n s'.c) g'.h) :
    HC Tryz.prog F.codec_place_take #[.pointer (some ⟨p, 2, none⟩), .int .i64 (n : Int)] R g.h := by
  refine codec_place_take.calls ?_
  unfold codec_place_take.body
  have hn := hr.len
  simp only [List.length_map] at hn
  simp only [derefK_some, fldK_some, Nat.zero_add, Nat.add_zero, Nat.reduceAdd, inj_int, inj_bool, inj_str, inj_ptr, inj_map, inj_slice, exists_eq_left, List.getElem?_toArray, List.getElem?_cons_zero, List.getElem?_cons_succ, Option.isNone_some, Option.isNone_none, Bool.not_true, Bool.not_false, Bool.false_eq_true, if_true, if_false, reduceIte, eq_self, not_true_eq_false, not_false_eq_true, bne_self_eq_false, beq_self_eq_true, decide_true, decide_false, decide_eq_true_eq, beq_iff_eq, bne_iff_ne, ne_eq, loadK_C hb]
  rw [wrapI64 (by omega) (by omega), show ((pos : Int) + (n : Int)) = ((pos + n : Nat) : Int) from by omega]
  refine store_C hb (by simp) rfl fun g1 m1 b1 => ?_
  simp only [List.setIfInBounds_toArray, List.set_cons_succ, List.set_cons_zero] at b1
  simp only [derefK_some, fldK_some, Nat.zero_add, Nat.add_zero, Nat.reduceAdd, inj_int, inj_bool, inj_str, inj_ptr, inj_map, inj_slice, exists_eq_left, List.getElem?_toArray, List.getElem?_cons_zero, List.getElem?_cons_succ, Option.isNone_some, Option.isNone_none, Bool.not_true, Bool.not_false, Bool.false_eq_true, if_true, if_false, reduceIte, eq_self, not_true_eq_false, not_false_eq_true, bne_self_eq_false, beq_self_eq_true, decide_true, decide_false, decide_eq_true_eq, beq_iff_eq, bne_iff_ne, ne_eq, loadK_C b1]
  rw [wrapI64 (by omega) (by omega)]
  refine slice_mid (l := pos) (h := pos + n) (by omega) rfl (by omega) (show pos + n ≤ s.c by omega) ?_
  have h2 := (hr.mv m1 (by simp [Ne.symm hk])).mid (l := pos) (h := pos + n) (sz := sizeOfT Tryz.prog T.uint8) zU8 (by omega) (by simp; omega) hc
  rw [← List.map_drop, ← List.map_take, Nat.add_sub_cancel_left] at h2
  exact H ⟨_, _, _⟩ g1 m1 b1 (by rw [Nat.add_sub_cancel_left]; exact h2) (by show pos + n - pos ≤ s.c - pos; omega)

theorem next_spec {g : GH} {kp kb p : Nat} {st : Bool × Nat} {bs : List Int} (hk : kp ≠ kb) (hd : RdrC g kp kb p st bs) (n : Nat) {R : Value → Heap → Prop}
    (H : ∀ (s' : Sl) (g' : GH), Mv [kp] g g' → RdrC g' kp kb p (nextR bs st n).2 bs → RdC 1 g' kb s' ((nextR bs st n).1.map byV) → s'.n ≤ s'.c → R (.slice s'.a s'.n s'.c) g'.h) :
    HC Tryz.prog F.codec_Reader_next #[.pointer (some ⟨p, 0, none⟩), .int .i64 (n : Int)] R g.h := by
  refine codec_Reader_next.calls ?_
  unfold codec_Reader_next.body
  obtain ⟨s, hb, hr, hc, hp, hl, hby⟩ := hd
  obtain ⟨bad, pos⟩ := st
  dsimp only at hb hp
  have hn := hr.len
  simp only [List.length_map] at hn
  simp only [derefK_some, fldK_some, Nat.zero_add, Nat.add_zero, Nat.reduceAdd, inj_int, inj_bool, inj_str, inj_ptr, inj_map, inj_slice, exists_eq_left, List.getElem?_toArray, List.getElem?_cons_zero, List.getElem?_cons_succ, Option.isNone_some, Option.isNone_none, Bool.not_true, Bool.not_false, Bool.false_eq_true, if_true, if_false, reduceIte, eq_self, not_true_eq_false, not_false_eq_true, bne_self_eq_false, beq_self_eq_true, decide_true, decide_false, decide_eq_true_eq, beq_iff_eq, bne_iff_ne, ne_eq, loadK_C hb]
  have m := Mv.refl [kp] g
  refine joinW_intro (fun _ h' => ∃ q : GH, h' = q.h ∧ Mv [kp] g q ∧ BlkC q kp p #[.bool true, .int .i64 (badE (bad || !decide (n ≤ bs.length - pos))), .slice s.a s.n s.c, .int .i64 (pos : Nat)] T.codec_Reader) ?_ ?_
  · intro J hJ
    refine joinW_intro (fun b h' => b = (!bad && !decide (n ≤ bs.length - pos)) ∧ h' = g.h) ?_ ?_
    · intro J2 hJ2
      refine sound_spec hb rfl ⟨_, rfl, ?_⟩
      rw [badE_0]
      dsimp only
      cases bad with
      | true => exact hJ2 _ _ ⟨rfl, rfl⟩
      | false =>
        rw [if_pos (by rfl)]
        refine has_spec hb (by omega) (by omega) n ⟨_, rfl, hJ2 _ _ ⟨?_, rfl⟩⟩
        rw [hn]
        simp only [Bool.not_false, Bool.true_and]
        congr 1
        apply decide_eq_decide.2
        omega
    · rintro _ _ ⟨rfl, rfl⟩
      cases bad with
      | true =>
        rw [if_neg (by simp)]
        exact hJ _ _ ⟨g, rfl, m, by simpa using hb⟩
      | false =>
        by_cases h : n ≤ bs.length - pos
        · rw [if_neg (by simp [h])]
          exact hJ _ _ ⟨g, rfl, m, by simpa [h] using hb⟩
        · rw [if_pos (by simp [h])]
          refine spoil_spec hb rfl 4 fun g1 m1 b1 => ⟨_, rfl, ?_⟩
          exact hJ _ _ ⟨g1, rfl, m1, by simpa [h, badE] using b1⟩
  · rintro _ _ ⟨q, rfl, m, hq⟩
    refine sound_spec hq rfl ⟨_, rfl, ?_⟩
    rw [badE_0]
    dsimp only
    have hrq := hr.mv m (by simp [Ne.symm hk])
    unfold nextR at H
    cases bad with
    | true =>
      rw [if_pos (by simp)]
      exact H ⟨none, 0, 0⟩ q m ⟨s, by simpa using hq, hrq, hc, hp, hl, hby⟩ (RdC.nil _ _ _ _ _) (Nat.le_refl _)
    | false =>
      simp only [Bool.false_eq_true, if_false] at H
      by_cases h : n ≤ bs.length - pos
      · rw [if_neg (by simp [h])]
        rw [if_pos h] at H
        simp only [h, decide_true, Bool.not_true, Bool.or_false] at hq
        refine place_take_spec hk hq hrq hc hl (by omega) fun s' g' m' b' r' c' => ⟨_, rfl, ?_⟩
        exact H s' g' ((m.trans m').mono (by simp)) ⟨s, b', hrq.mv m' (by simp [Ne.symm hk]), hc, by show pos + n ≤ bs.length; omega, hl, hby⟩ r' c'
      · rw [if_pos (by simp [h])]
        rw [if_neg h] at H
        exact H ⟨none, 0, 0⟩ q m ⟨s, by simpa [h] using hq, hrq, hc, hp, hl, hby⟩ (RdC.nil _ _ _ _ _) (Nat.le_refl _)

theorem rNumber_spec {g : GH} {kp kb p : Nat} {st : Bool × Nat} {bs : List Int} (hk : kp ≠ kb) (hd : RdrC g kp kb p st bs) {R : Value → Heap → Prop}
    (H : ∀ g' : GH, Mv [kp] g g' → RdrC g' kp kb p (numR bs st).2 bs → R (.int .i64 (numR bs st).1) g'.h) : HC Tryz.prog F.codec_Reader_Number #[.pointer (some ⟨p, 0, none⟩)] R g.h := by
  refine codec_Reader_Number.calls ?_
  unfold codec_Reader_Number.body
  obtain ⟨_, _, _, _, hpos, _, hby⟩ := id hd
  refine next_spec hk hd 4 fun s' g1 m1 d1 r1 c1 => ⟨_, rfl, ?_⟩
  have hn := r1.len
  simp only [List.length_map] at hn
  have hlen := nextR_len (n := 4) hpos
  have hbb := nextR_byte (st := st) (n := 4) hby
  unfold numR at H
  generalize (nextR bs st 4).1 = out at *
  refine loopW_rule (fun st h' => ∃ i : Nat, i ≤ out.length ∧ st = (numOf (out.take i), (i : Int)) ∧ g1.h = h') (fun st => out.length - st.2.toNat) ⟨0, by omega, rfl, rfl⟩ ?_
  rintro X _ _ ⟨i, hi, rfl, rfl⟩ hX
  dsimp only
  by_cases hlt : i < out.length
  · rw [if_pos (by simp [hn]; omega)]
    refine idxLoadN r1.rd zU8 (k := .int .u8) out[i] (getElem?_map_at _ hlt) ?_
    have hb0 := hbb _ (List.getElem_mem hlt)
    have hbt : ∀ x ∈ out.take i, isByte x := fun x hx => hbb x (List.mem_of_mem_take hx)
    have hb3 : 0 ≤ numOf (out.take i) ∧ numOf (out.take i) < 16777216 := by
      obtain ⟨h1, h2⟩ := numOf_bound hbt
      have := Nat.pow_le_pow_right (n := 256) (by decide) (show (out.take i).length ≤ 3 by simp; omega)
      rw [pow256] at h2
      exact ⟨h1, by omega⟩
    refine ⟨by decide, ?_⟩
    rw [or64 hb3.1 hb3.2 hb0, wrapSucc (by omega)]
    refine hX _ _ ⟨i + 1, by omega, ?_, rfl⟩ (by simp; omega)
    rw [List.take_succ_eq_append_getElem hlt, numOf_append]
  · rw [if_neg (by simp [hn]; omega)]
    have hi' : i = out.length := by omega
    subst hi'
    rw [List.take_length]
    exact H g1 m1 d1

theorem rRun_spec {g : GH} (c : Nat) {kp kb p : Nat} {st : Bool × Nat} {bs : List Int} (hk : kp ≠ kb) (hd : RdrC g kp kb p st bs) {R : Value → Heap → Prop}
    (H : ∀ (s' : Sl) (g' : GH), Mv [kp] g g' → RdrC g' kp kb p (runR bs st).2 bs → OwnC T.uint8 1 g' c s' ((runR bs st).1.map byV) → R (.slice s'.a s'.n s'.c) g'.h) : HC Tryz.prog F.codec_Reader_Run #[.pointer (some ⟨p, 0, none⟩)] R g.h := by
  refine codec_Reader_Run.calls ?_
  unfold codec_Reader_Run.body
  have hd0 := hd
  obtain ⟨s0, hb, hr, hc, hpos, hl, hby⟩ := hd
  simp only [derefK_some, fldK_some, Nat.zero_add, Nat.add_zero, Nat.reduceAdd, inj_int, inj_bool, inj_str, inj_ptr, inj_map, inj_slice, exists_eq_left, List.getElem?_toArray, List.getElem?_cons_zero, List.getElem?_cons_succ, Option.isNone_some, Option.isNone_none, Bool.not_true, Bool.not_false, Bool.false_eq_true, if_true, if_false, reduceIte, eq_self, not_true_eq_false, not_false_eq_true, bne_self_eq_false, beq_self_eq_true, decide_true, decide_false, decide_eq_true_eq, beq_iff_eq, bne_iff_ne, ne_eq, loadK_C hb]
  have m : Mv [kp] g g := Mv.refl _ _
  refine rNumber_spec hk hd0 fun q1 m1 d1 => ⟨_, rfl, ?_⟩
  replace m := m.step m1 (by simp [hk, Ne.symm hk])
  replace hr := hr.mv m1 (by simp [hk, Ne.symm hk])
  have hnb := numR_bound hpos hby
  obtain ⟨n, hn⟩ : ∃ n : Nat, (numR bs st).1 = n := ⟨(numR bs st).1.toNat, by omega⟩
  rw [hn]
  refine next_spec hk d1 n fun s2 q2 m2 d2 r2 c2 => ⟨_, rfl, ?_⟩
  replace m := m.step m2 (by simp [hk, Ne.symm hk])
  replace hr := hr.mv m2 (by simp [hk, Ne.symm hk])
  try dsimp only
  have hle2 := nextR_le (n := n) (numR_le hpos)
  have hlen2 := nextR_len' (bs := bs) (st := (numR bs st).2) (n := n)
  unfold runR at H
  dsimp only at H
  rw [hn, Int.toNat_natCast] at H
  have d2' := d2
  obtain ⟨s3, b3, r3, c3, _⟩ := d2
  refine sound_spec b3 rfl ⟨_, rfl, ?_⟩
  rw [badE_0]
  dsimp only
  cases hbad : (nextR bs (numR bs st).2 n).2.1 with
  | true =>
    rw [if_pos (by rfl)]
    rw [hbad, if_pos rfl] at H
    refine store_C b3 (by simp) rfl fun q3 m3 b4 => ?_
    replace m := m.step m3 (by simp [hk, Ne.symm hk])
    replace r3 := r3.mv m3 (by simp [hk, Ne.symm hk])
    simp only [List.setIfInBounds_toArray, List.set_cons_succ, List.set_cons_zero, hbad] at b4
    exact H ⟨none, 0, 0⟩ q3 m ⟨s3, b4, r3, c3, hpos, hl, hby⟩ (OwnC.nil _ _ _ _)
  | false =>
    rw [if_neg (by simp)]
    rw [hbad] at H
    simp only [Bool.false_eq_true, if_false] at H
    refine CloneBytes_spec q2 c s2 _ r2.rd (by omega) fun s4 q4 m4 o4 => ⟨_, rfl, ?_⟩
    replace m := m.step m4 (by simp)
    exact H s4 q4 m (d2'.mv m4 (by simp) (by simp)) o4

theorem rLeft_spec {g : GH} {kp kb p : Nat} {st : Bool × Nat} {bs : List Int} (hd : RdrC g kp kb p st bs) {R : Value → Heap → Prop}
    (H : R (.int .i64 ((bs.length - st.2 : Nat) : Int)) g.h) : HC Tryz.prog F.codec_Reader_Left #[.pointer (some ⟨p, 0, none⟩)] R g.h := by
  refine codec_Reader_Left.calls ?_
  unfold codec_Reader_Left.body
  obtain ⟨s, hb, hr, hc, hpos, hl, hby⟩ := hd
  have hn := hr.len
  simp only [List.length_map] at hn
  simp only [derefK_some, fldK_some, Nat.zero_add, Nat.add_zero, Nat.reduceAdd, inj_int, inj_bool, inj_str, inj_ptr, inj_map, inj_slice, exists_eq_left, List.getElem?_toArray, List.getElem?_cons_zero, List.getElem?_cons_succ, Option.isNone_some, Option.isNone_none, Bool.not_true, Bool.not_false, Bool.false_eq_true, if_true, if_false, reduceIte, eq_self, not_true_eq_false, not_false_eq_true, bne_self_eq_false, beq_self_eq_true, decide_true, decide_false, decide_eq_true_eq, beq_iff_eq, bne_iff_ne, ne_eq, loadK_C hb]
  rw [wrapI64 (by omega) (by omega), show ((s.n : Int) - ((st.2 : Nat) : Int)) = ((bs.length - st.2 : Nat) : Int) from by omega]
  exact H

/-! ### The same, what comes out being told -/

theorem wTag_to {g : GH} {kp kb c p : Nat} {e e' : Int} {bs bs' : List Int} (hk : kp ≠ kb) (hcp : c ≠ kp) (hcb : c ≠ kb) (hw : WrC g kp kb p e bs) (v : Sl) (xs : List (List Int)) (hr : SlC g c ShTag v xs) (hl : xs.length ≤ 1000000000) (hput : putAll yes tagB (e, bs) xs = (e', bs')) {R : Value → Heap → Prop}
    (H : ∀ g' : GH, Mv [kp, kb] g g' → WrC g' kp kb p e' bs' → R (.int .i64 e') g'.h) : HC Tryz.prog F.codec_Writer_Tag #[.pointer (some ⟨p, 0, none⟩), .slice v.a v.n v.c] R g.h := by
  refine wTag_spec hk hcp hcb hw v xs hr hl ?_
  rw [hput]
  exact H
theorem wRun_to {g : GH} {kp kb c p : Nat} {e e' : Int} {bs bs' : List Int} (hk : kp ≠ kb) (hcp : c ≠ kp) (hcb : c ≠ kb) (hw : WrC g kp kb p e bs) (v : Sl) (xs : List (List Int)) (hr : RowsC g c v xs) (hxl : ∀ x ∈ xs, x.length ≤ 90000000) (hl : xs.length ≤ 1000000000) (hput : putAll yes runB (e, bs) xs = (e', bs')) {R : Value → Heap → Prop}
    (H : ∀ g' : GH, Mv [kp, kb] g g' → WrC g' kp kb p e' bs' → R (.int .i64 e') g'.h) : HC Tryz.prog F.codec_Writer_Run #[.pointer (some ⟨p, 0, none⟩), .slice v.a v.n v.c] R g.h := by
  refine wRun_spec hk hcp hcb hw v xs hr hxl hl ?_
  rw [hput]
  exact H
/-- One tag as a slice. -/
theorem oneTag {g : GH} {c : Nat} {v : Sl} {t : List Int} (hl : t.length = 32) (hb : ∀ x ∈ t, isByte x) (o : RdC 32 g c v (t.map byV)) (hn : v.n = 1) (hc : v.c = 1) : SlC g c ShTag v [t] := by
  have l := LayC.ofEnc (g := g) (c := c) (s := ShTag) rfl (x := t) (okTag hl hb)
  rw [encTag] at l
  exact SlC.one (by omega) hn o l
theorem buildTag_C (g : GH) (c : Nat) {t : List Int} (hl : t.length = 32) (hb : ∀ x ∈ t, isByte x) {K : Sl → Heap → Prop} (H : ∀ (s : Sl) (g' : GH), Mv [] g g' → SlC g' c ShTag s [t] → K s g'.h) : opK Tryz.prog .slice (Instr.buildSlice T.sl_api_Tag 1 #[(0, .agg (tagA t))]) K g.h :=
  buildRows_C (e := T.api_Tag) (sz := 32) (z := .agg (Array.replicate 32 (.int .u8 0))) (by kernel_rfl) (by kernel_rfl) (by decide) [.agg (tagA t)] rfl (by simp [Value.cells, hl]) rfl (by simp) (by simp) g c fun s g' m o hn hc =>
    H s g' m (oneTag hl hb (by simpa [Value.cells] using o.rd) hn hc)

end Go.Proofs.YtgongoaiflphaaaGreat
