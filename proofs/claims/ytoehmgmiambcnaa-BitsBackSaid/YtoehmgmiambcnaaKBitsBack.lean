/-
  The law BitsBack: what it answers.
-/
import Derived.Test.YtoehmgmiambcnaaKWords2
set_option linter.unusedSimpArgs false
set_option linter.unusedVariables false
namespace Go.Proofs.Ytoehmgmiambcnaa
open Go Go.Ev

theorem turnedFrom_lt (n : Int) (i : Nat) : turnedFrom n i < 32 := by unfold turnedFrom; omega
theorem turnB_eq {x y : BitVec 32} {a b : Int} (h : ∀ i, i < 32 → x.getLsbD (turnedFrom a i) = y.getLsbD (turnedFrom b i)) : turnB x a = turnB y b := by
  apply BitVec.eq_of_getLsbD_eq
  intro i hi
  rw [turnB_get x a i hi, turnB_get y b i hi, h i hi]
theorem turnB_turnB (x : BitVec 32) (a b : Int) : turnB (turnB x a) b = turnB x (a + b) := by
  refine turnB_eq fun i hi => ?_
  rw [turnB_get x a _ (turnedFrom_lt b i)]
  congr 1
  unfold turnedFrom
  omega
theorem turnB_zero (x : BitVec 32) : turnB x 0 = x := by
  apply BitVec.eq_of_getLsbD_eq
  intro i hi
  rw [turnB_get x 0 i hi]
  congr 1
  unfold turnedFrom
  omega
theorem turnB_mod {a b : Int} (x : BitVec 32) (h : (a - b) % 32 = 0) : turnB x a = turnB x b := by
  refine turnB_eq fun i hi => ?_
  congr 1
  unfold turnedFrom
  omega

theorem BitsBack_spec (x : BitVec 32) (n m : Int) (hn : -9223372036854775808 ≤ n ∧ n ≤ 9223372036854775807) (hm : -9223372036854775808 ≤ m ∧ m ≤ 9223372036854775807) (s b : Sl) (ws : List (BitVec 32)) (bs : List Int) {R : Value → Heap → Prop} {h : Heap}
    (hs : Rd 1 h s (ws.map wv)) (hb : Rd 1 h b (bs.map bv)) (hby : ∀ x ∈ bs, isByte x) (hls : ws.length ≤ 1000000000000000) (hlb : bs.length ≤ 1000000000000000) (H : ∀ h', Ext h h' → R (.bool true) h') :
    HC Try.prog F.law01_BitsBack #[wv x, .int .i64 n, .int .i64 m, .slice s.a s.n s.c, .slice b.a b.n b.c] R h := by
  refine law01_BitsBack.calls (words3 := s) (b4 := b) ?_
  unfold law01_BitsBack.body
  have hls' : s.n = ws.length := by have := hs.len; simpa using this
  have hlb' : b.n = bs.length := by have := hb.len; simpa using this
  refine awake_spec fun h1 x1 => ⟨_, rfl, ?_⟩
  dsimp only
  rw [if_neg (by simp), wrapI64 (n := (s.n : Int) + (b.n : Int)) (by omega) (by omega)]
  by_cases hbig : (s.n : Int) + (b.n : Int) > 1000
  · rw [if_pos (by simpa using hbig)]
    exact H h1 x1
  · rw [if_neg (by simpa using hbig)]
    refine Pick_spec n 32 hn (by omega) ⟨_, rfl, ?_⟩
    refine Pick_spec m 32 hm (by omega) ⟨_, rfl, ?_⟩
    dsimp only
    have p1 : 0 ≤ n % 32 ∧ n % 32 < 32 := by omega
    have p2 : 0 ≤ m % 32 ∧ m % 32 < 32 := by omega
    generalize n % 32 = p at p1 ⊢
    generalize m % 32 = q at p2 ⊢
    rw [wrapI64 (n := 0 - p) (by omega) (by omega), wrapI64 (n := p + q) (by omega) (by omega), wrapI64 (n := p - 32) (by omega) (by omega)]
    refine Turn_spec x p (by omega) ⟨_, rfl, ?_⟩
    refine Turn_spec _ (0 - p) (by omega) ⟨_, rfl, ?_⟩
    rw [turnB_turnB, show p + (0 - p) = 0 from by omega, turnB_zero]
    dsimp only
    rw [if_neg (by simp)]
    refine Turn_spec x p (by omega) ⟨_, rfl, ?_⟩
    refine Turn_spec _ q (by omega) ⟨_, rfl, ?_⟩
    refine Turn_spec x (p + q) (by omega) ⟨_, rfl, ?_⟩
    rw [turnB_turnB]
    dsimp only
    rw [if_neg (by simp)]
    refine Turn_spec x p (by omega) ⟨_, rfl, ?_⟩
    refine Turn_spec x (p - 32) (by omega) ⟨_, rfl, ?_⟩
    rw [turnB_mod (a := p - 32) (b := p) x (by omega)]
    dsimp only
    rw [if_neg (by simp)]
    refine Bytes_spec s ws (hs.ext x1) (by omega) ?_
    intro s2 h2 own2 x2 b2
    refine ⟨s2, rfl, ?_⟩
    have hfl : ∀ l : List (BitVec 32), (l.flatMap be4).length = 4 * l.length := fun l => by
      induction l with
      | nil => rfl
      | cons a l ih => rw [List.flatMap_cons, List.length_append, ih]; simp [be4]; omega
    refine Words_spec s2 (ws.flatMap be4) own2.rd (fun y hy => ?_) (by rw [hfl]; omega) ?_
    · obtain ⟨w, _, hw⟩ := List.mem_flatMap.1 hy
      exact be4_byte w y hw
    intro s3 h3 e3 r3 x3 b3
    rw [if_pos (by rw [hfl]; omega), wordsOf_be4] at r3
    obtain ⟨rfl, own3⟩ := r3
    refine ⟨(s3, 0), rfl, ?_⟩
    dsimp only
    rw [if_neg (by simp)]
    refine SameLimbs_spec s3 s ws ws own3.rd (hs.ext ((x1.trans x2).trans x3)) (by omega) (by omega) ⟨_, rfl, ?_⟩
    rw [decide_eq_true rfl]
    dsimp only
    rw [if_neg (by simp)]
    refine Words_spec b bs (hb.ext ((x1.trans x2).trans x3)) hby (by omega) ?_
    intro s4 h4 e4 r4 x4 b4
    refine ⟨(s4, e4), rfl, ?_⟩
    dsimp only
    have hx4 := ((x1.trans x2).trans x3).trans x4
    have hm4 : Int.tmod (b.n : Int) 4 = ((bs.length % 4 : Nat) : Int) := by rw [Int.tmod_eq_emod_of_nonneg (by omega)]; omega
    by_cases h4' : bs.length % 4 = 0
    · rw [if_pos h4'] at r4
      obtain ⟨rfl, own4⟩ := r4
      have hwl := wordsOf_length bs
      have hn4 : s4.n = bs.length / 4 := by have := own4.rd.len; simp at this; omega
      rw [if_neg (by simp), if_pos (by simp), wrapI64 (n := 4 * (s4.n : Int)) (by omega) (by omega), if_pos (by simp; omega)]
      refine Bytes_spec s4 (wordsOf bs) own4.rd (by omega) ?_
      intro s5 h5 own5 x5 b5
      refine ⟨s5, rfl, ?_⟩
      rw [flatMap_wordsOf bs h4' hby] at own5
      refine SameBytes_spec s5 b bs bs own5.rd (hb.ext (hx4.trans x5)) (by omega) (by omega) ⟨_, rfl, ?_⟩
      rw [decide_eq_true rfl]
      exact H h5 (hx4.trans x5)
    · rw [if_neg h4'] at r4
      obtain ⟨rfl, own4⟩ := r4
      rw [if_pos (by simp)]
      refine ⟨by decide, ?_⟩
      rw [hm4, if_pos (by simp; omega)]
      exact H h4 hx4

theorem BitsBack_walk {h : Heap} (a0 : Int) (w0 : (Lit.int .u32 a0).wf = true) (a1 : Int) (w1 : (Lit.int .i64 a1).wf = true) (a2 : Int) (w2 : (Lit.int .i64 a2).wf = true)
    (a : Option Addr) (len cap : Nat) (zs : List Int) (w3 : RowIn .u32 4 h a len cap zs) (b : Option Addr) (blen bcap : Nat) (ys : List Int) (w4 : RowIn .u8 1 h b blen bcap ys) :
    HC Try.prog F.law01_BitsBack #[.int .u32 a0, .int .i64 a1, .int .i64 a2, .slice a len cap, .slice b blen bcap] (fun v h' => v = .bool true ∧ Ext h h') h := by
  obtain ⟨x, rfl⟩ := ltU32 (wf_u32 w0).1 (by have := wf_u32 w0; omega)
  obtain ⟨ws, e1, e2⟩ := ofWords w3.wf
  have r3 := w3.rd
  rw [e1] at r3
  have s3 := w3.small; have s4 := w4.small; have l3 := w3.length; have l4 := w4.length
  exact BitsBack_spec x a1 a2 (wf_i64 w1) (wf_i64 w2) ⟨a, len, cap⟩ ⟨b, blen, bcap⟩ ws ys r3 w4.rd (ofBytes w4.wf) (by omega) (by omega) fun h' hx => ⟨rfl, hx⟩
end Go.Proofs.Ytoehmgmiambcnaa
