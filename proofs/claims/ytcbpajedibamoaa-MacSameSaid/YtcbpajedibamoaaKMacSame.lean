/-
  Two tags held against each other, byte by byte; a tag checked.
-/
import Derived.Test.YtcbpajedibamoaaKMac
set_option linter.unusedSimpArgs false
set_option linter.unusedVariables false
namespace Go.Proofs.Ytcbpajedibamoaa
open Go Go.Ev

theorem ofIntU8 (x : BitVec 8) : BitVec.ofInt (IntKind.bits .u8) (x.toNat : Int) = x := by
  show BitVec.ofInt 8 (x.toNat : Int) = x
  apply BitVec.eq_of_toNat_eq
  rw [BitVec.toNat_ofInt]
  have := x.isLt
  omega
theorem wrapBv8 (x : BitVec 8) : IntKind.u8.wrap (x.toNat : Int) = (x.toNat : Int) := by
  have := x.isLt
  rw [wrapU8_mod]; omega
theorem byteBv {a : Int} (h : isByte a) : ∃ A : BitVec 8, a = (A.toNat : Int) := ⟨BitVec.ofNat 8 a.toNat, by unfold isByte at h; simp; omega⟩
theorem turnBv (M B : BitVec 8) : turnB (M.toNat : Int) (B.toNat : Int) = ((B ^^^ M).toNat : Int) := by
  unfold turnB
  rw [ofIntU8, ofIntU8]
  exact wrapBv8 _
theorem bvInj {A B : BitVec 8} : ((A.toNat : Nat) : Int) = (B.toNat : Int) ↔ A = B := ⟨fun h => BitVec.eq_of_toNat_eq (by omega), fun h => by rw [h]⟩
theorem xorZero (A B : BitVec 8) : A ^^^ B = 0#8 ↔ A = B := by
  constructor
  · intro h
    have : A ^^^ (A ^^^ B) = A ^^^ 0#8 := by rw [h]
    rw [← BitVec.xor_assoc, BitVec.xor_self, BitVec.zero_xor, BitVec.xor_zero] at this
    exact this.symm
  · rintro rfl; exact BitVec.xor_self
theorem xorSame (A B : BitVec 8) : A ^^^ B = A ↔ B = 0#8 := by
  constructor
  · intro h
    have : A ^^^ (A ^^^ B) = A ^^^ A := by rw [h]
    rw [← BitVec.xor_assoc, BitVec.xor_self, BitVec.zero_xor] at this
    exact this
  · rintro rfl; exact BitVec.xor_zero
theorem orZero (A B : BitVec 8) : A ||| B = 0#8 ↔ A = 0#8 ∧ B = 0#8 := by
  constructor
  · intro h
    constructor
    · apply BitVec.eq_of_getLsbD_eq
      intro i hi
      have := congrArg (fun v => v.getLsbD i) h
      simp at this
      simp [this.1]
    · apply BitVec.eq_of_getLsbD_eq
      intro i hi
      have := congrArg (fun v => v.getLsbD i) h
      simp at this
      simp [this.2]
  · rintro ⟨rfl, rfl⟩; rfl

/-- A byte that is turned is itself only if it is turned by nought. -/
theorem turnB_same {m b : Int} (hm : isByte m) (hb : isByte b) : turnB m b = b ↔ m = 0 := by
  obtain ⟨M, rfl⟩ := byteBv hm
  obtain ⟨B, rfl⟩ := byteBv hb
  rw [turnBv, bvInj, xorSame]
  exact ⟨fun h => by rw [h]; rfl, fun h => BitVec.eq_of_toNat_eq (by simp; omega)⟩

/-- What differed so far. -/
def differB (acc a b : Int) : Int := IntKind.u8.wrap ((BitVec.ofInt (IntKind.bits .u8) acc ||| BitVec.ofInt (IntKind.bits .u8) (turnB b a)).toNat : Int)
theorem differB_byte (acc a b : Int) : isByte (differB acc a b) := wrapIsByte _
theorem differB_zero {acc a b : Int} (hc : isByte acc) (ha : isByte a) (hb : isByte b) : differB acc a b = 0 ↔ acc = 0 ∧ a = b := by
  obtain ⟨C, rfl⟩ := byteBv hc
  obtain ⟨A, rfl⟩ := byteBv ha
  obtain ⟨B, rfl⟩ := byteBv hb
  unfold differB
  rw [turnBv, ofIntU8, ofIntU8]
  have w8 : IntKind.u8.wrap (((C ||| (A ^^^ B) : BitVec 8).toNat : Nat) : Int) = (((C ||| (A ^^^ B) : BitVec 8).toNat : Nat) : Int) := wrapBv8 _
  refine (Iff.of_eq (congrArg (· = (0 : Int)) w8)).trans ?_
  have e : ∀ X : BitVec 8, ((X.toNat : Nat) : Int) = 0 ↔ X = 0#8 := fun X => bvInj (A := X) (B := 0#8)
  rw [e, e, orZero, xorZero, bvInj]

theorem Same_spec (g : GH) (x y : List Int) (hx : x.length = 32) (hxb : ∀ v ∈ x, isByte v) (hy : y.length = 32) (hyb : ∀ v ∈ y, isByte v) {R : Value → Heap → Prop} (H : ∀ g' : GH, Mv [] g g' → R (.bool (decide (x = y))) g'.h) :
    HC Try.prog F.mac_Same #[.agg (tagA x), .agg (tagA y)] R g.h := by
  refine mac_Same.calls ?_
  unfold mac_Same.body
  refine new_C g 0 fun a q1 m1 b1 => ?_
  refine new_C q1 0 fun b q2 m2 b2 => ?_
  replace b1 := b1.mv m2 (by simp)
  refine loopW_rule (fun st h' => ∃ (i : Nat) (acc : Int), i ≤ 32 ∧ st = (acc, (i : Int)) ∧ h' = q2.h ∧ isByte acc ∧ (acc = 0 ↔ x.take i = y.take i)) (fun st => 32 - st.2.toNat) ⟨0, 0, by omega, rfl, rfl, by unfold isByte; omega, by simp⟩ ?_
  rintro X _ _ ⟨i, acc, hi, rfl, rfl, hacc, heq⟩ hX
  dsimp only
  by_cases hlt : i < 32
  · rw [if_pos (by simp; omega)]
    have hlx : i < x.length := by omega
    have hly : i < y.length := by omega
    refine idxArr_N (by kernel_rfl) (by omega) ?_
    rw [Nat.zero_add, loadK_C b1]
    refine ⟨x[i], by simp [List.getElem?_eq_getElem hlx, Kd.inj], ?_⟩
    refine idxArr_N (by kernel_rfl) (by omega) ?_
    rw [Nat.zero_add, loadK_C b2]
    refine ⟨y[i], by simp [List.getElem?_eq_getElem hly, Kd.inj], ?_⟩
    rw [wrapSucc (by omega)]
    have hz := differB_zero hacc (hxb _ (List.getElem_mem hlx)) (hyb _ (List.getElem_mem hly))
    refine hX _ _ ⟨i + 1, differB acc x[i] y[i], by omega, rfl, rfl, differB_byte _ _ _, ?_⟩ (by simp; omega)
    rw [hz, heq, List.take_succ_eq_append_getElem hlx, List.take_succ_eq_append_getElem hly]
    constructor
    · rintro ⟨h1, h2⟩; rw [h1, h2]
    · intro h
      have := List.append_inj h (by simp; omega)
      exact ⟨this.1, by simpa using this.2⟩
  · rw [if_neg (by simp; omega)]
    have hi' : i = 32 := by omega
    subst hi'
    rw [List.take_of_length_le (by omega), List.take_of_length_le (by omega)] at heq
    have : (acc == 0) = decide (x = y) := by
      by_cases h : x = y
      · rw [heq.2 h]; simp [h]
      · have : ¬ acc = 0 := fun e => h (heq.1 e)
        simp [h, this]
    rw [this]
    exact H q2 (m1.trans m2)

theorem macCheck_spec (g : GH) {d e : Nat} (v w : Sl) (ks t : List Int) (xss : List (List Int)) (htl : t.length = 32) (htb : ∀ x ∈ t, isByte x) (hk : RdC 1 g e v (ks.map byV)) (hkc : v.n ≤ v.c) (hkl : ks.length ≤ 70000000) (hkb : ∀ x ∈ ks, isByte x)
    (hr : RowsC g d w xss) (hby : ∀ xs ∈ xss, ∀ x ∈ xs, isByte x) (ht : total xss ≤ 70000000) (hl : xss.length ≤ 10000000) {R : Value → Heap → Prop} (H : ∀ g' : GH, Mv [] g g' → R (.int .i64 (if macB ks xss.flatten = t then 0 else 7)) g'.h) :
    HC Try.prog F.mac_Check #[.slice v.a v.n v.c, .agg (tagA t), .slice w.a w.n w.c] R g.h := by
  refine mac_Check.calls (key0 := v) (rows2 := w) ?_
  unfold mac_Check.body
  have m := Mv.refl [1] g.base
  refine new_C g.base 1 fun b q1 m1 b1 => ?_
  replace m := m.step m1 (by simp)
  refine loadAgg_whole b1 (tagA_size htl) ?_
  refine macOf_spec q1 v w ks xss (hk.arg m (by simp)) hkc hkl hkb (hr.arg m (by simp)) hby ht hl fun q2 m2 => ⟨_, rfl, stillAgg_whole (b1.mv m2 (by simp)) (tagA_size htl), ?_⟩
  replace m := m.step m2 (by simp)
  refine Same_spec q2 _ t (macB_length _ _) (macB_byte _ _) htl htb fun q3 m3 => ⟨_, rfl, ?_⟩
  replace m := m.step m3 (by simp)
  have hh := H (g.via q3 fun _ => 0) (m.via (by simp) _)
  dsimp only
  by_cases he : macB ks xss.flatten = t
  · rw [if_neg (by simp [he])]
    rw [if_pos he] at hh
    exact hh
  · rw [if_pos (by simp [he])]
    rw [if_neg he] at hh
    exact hh

end Go.Proofs.Ytcbpajedibamoaa
