/-
  The law BitsBytes: what it answers.
-/
import Derived.Test.YtoehmgmiambcnaaKWords2
set_option linter.unusedSimpArgs false
set_option linter.unusedVariables false
namespace Go.Proofs.Ytoehmgmiambcnaa
open Go Go.Ev

theorem wv_limbs' (ws : List (BitVec 32)) : ws.map wv = (ws.map fun w => (w.toNat : Int)).map valLimbs := by simp

theorem BitsBytes_spec (s b : Sl) (ws : List (BitVec 32)) (bs : List Int) {R : Value → Heap → Prop} {h : Heap} (hs : Rd 1 h s (ws.map wv)) (hb : Rd 1 h b (bs.map bv)) (hby : ∀ x ∈ bs, isByte x)
    (hls : ws.length ≤ 1000000000000000) (hlb : bs.length ≤ 1000000000000000) (H : ∀ h', Ext h h' → R (.bool true) h') :
    HC Try.prog F.law01_BitsBytes #[.slice s.a s.n s.c, .slice b.a b.n b.c] R h := by
  refine law01_BitsBytes.calls (words0 := s) (b1 := b) ?_
  unfold law01_BitsBytes.body
  have hls' : s.n = ws.length := by have := hs.len; simpa using this
  have hlb' : b.n = bs.length := by have := hb.len; simpa using this
  rw [wrapI64 (n := (s.n : Int) + (b.n : Int)) (by omega) (by omega)]
  by_cases hbig : (s.n : Int) + (b.n : Int) > 1000
  · rw [if_pos (by simpa using hbig)]
    exact awake_spec fun h' hx => ⟨_, rfl, H h' hx⟩
  · rw [if_neg (by simpa using hbig)]
    refine LentLimbs_spec s _ hs (oneWv ws) (by simp; omega) ?_
    intro s1 h1 lent1 x1 b1
    refine ⟨s1, rfl, ?_⟩
    refine LentBytes_spec b _ (hb.ext x1) (oneBv bs) (by simp; omega) ?_
    intro s2 h2 lent2 x2 b2
    refine ⟨s2, rfl, ?_⟩
    refine Bytes_spec s1 ws (lent1.rd.ext x2) (by omega) ?_
    intro s3 h3 own3 x3 b3
    refine ⟨s3, rfl, ?_⟩
    refine Words_spec s2 bs (lent2.rd.ext x3) hby (by omega) ?_
    intro s4 h4 e4 r4 x4 b4
    refine ⟨(s4, e4), rfl, ?_⟩
    refine refWords_spec b bs (hb.ext (((x1.trans x2).trans x3).trans x4)) hby (by omega) ?_
    intro s5 h5 e5 r5 x5 b5
    refine ⟨(s5, e5), rfl, ?_⟩
    obtain ⟨us, he, own4, own5, hus⟩ : ∃ us : List (BitVec 32), e4 = e5 ∧ Own T.uint32 1 h4 s4 (us.map wv) ∧ Own T.uint32 1 h5 s5 (us.map wv) ∧ us.length ≤ 1000 := by
      by_cases h4' : bs.length % 4 = 0
      · rw [if_pos h4'] at r4 r5
        exact ⟨wordsOf bs, by rw [r4.1, r5.1], r4.2, r5.2, by rw [wordsOf_length]; omega⟩
      · rw [if_neg h4'] at r4 r5
        exact ⟨[], by rw [r4.1, r5.1], r4.2, r5.2, by simp⟩
    have hfl : ∀ l : List (BitVec 32), (l.flatMap be4).length = 4 * l.length := fun l => by
      induction l with
      | nil => rfl
      | cons a l ih => rw [List.flatMap_cons, List.length_append, ih]; simp [be4]; omega
    have x05 := (((x1.trans x2).trans x3).trans x4).trans x5
    refine joinW_intro (fun st h' => st = true ∧ Ext h5 h') (fun J hJ => ?_) ?_
    · refine refBytes_spec s ws (hs.ext x05) (by omega) ?_
      intro s6 h6 own6 x6 b6
      refine ⟨s6, rfl, ?_⟩
      refine SameBytes_spec s3 s6 (ws.flatMap be4) (ws.flatMap be4) (own3.rd.ext ((x4.trans x5).trans x6)) own6.rd (by rw [hfl]; omega) (by rw [hfl]; omega) ⟨_, rfl, ?_⟩
      rw [decide_eq_true rfl]
      dsimp only
      rw [if_pos rfl, if_pos (by simpa using he)]
      refine SameLimbs_spec s4 s5 us us (own4.rd.ext (x5.trans x6)) (own5.rd.ext x6) (by omega) (by omega) ⟨_, rfl, ?_⟩
      rw [decide_eq_true rfl]
      exact hJ _ _ ⟨rfl, x6⟩
    · rintro _ h6 ⟨rfl, x6⟩
      have hn3 : s3.n = 4 * ws.length := by have := own3.rd.len; rw [List.length_map, hfl] at this; exact this
      have hn4 : s4.n = us.length := by have := own4.rd.len; simpa using this
      refine OverBytes_spec s3 _ (own3.frm (S := fun _ => False) ((x4.trans x5).trans x6) (fun _ _ x => x)) (by omega) ?_
      intro h7 f7
      refine ⟨(), rfl, ?_⟩
      have b34 : ∀ j, s3.blk = some j → j < h3.size := fun j hj => own3.blk_lt hj
      refine OverLimbs_spec s4 _ ((own4.frm (S := fun _ => False) (x5.trans x6) (fun _ _ x => x)).frm f7 (fun j hj hj2 => by have := b4 j hj; have := b34 j hj2; omega)) (by omega) ?_
      intro h8 f8
      refine ⟨(), rfl, ?_⟩
      have x26 : Ext h2 h6 := ((x3.trans x4).trans x5).trans x6
      have x27 : Ext h2 h7 := x26.trans' f7 (fun j hj hj2 => by have := b3 j hj2; omega)
      have x28 : Ext h2 h8 := x27.trans' f8 (fun j hj hj2 => by have := b4 j hj2; have := x3.1; omega)
      have x08 : Ext h h8 := (x1.trans x2).trans x28
      dsimp only
      rw [if_pos rfl]
      rw [wv_limbs'] at lent1 hs
      refine KeptLimbs_spec s1 s _ (lent1.ext (x2.trans x28)) (hs.ext x08) (by simp; omega) ⟨_, rfl, ?_⟩
      dsimp only
      rw [if_pos rfl]
      refine KeptBytes_spec s2 b bs (lent2.ext x28) (hb.ext x08) (by omega) ⟨_, rfl, ?_⟩
      dsimp only
      rw [if_pos rfl]
      exact awake_spec fun h' hx => ⟨_, rfl, H h' (x08.trans hx)⟩

theorem BitsBytes_walk {h : Heap} (a : Option Addr) (len cap : Nat) (zs : List Int) (w0 : RowIn .u32 4 h a len cap zs) (b : Option Addr) (blen bcap : Nat) (ys : List Int) (w1 : RowIn .u8 1 h b blen bcap ys) :
    HC Try.prog F.law01_BitsBytes #[.slice a len cap, .slice b blen bcap] (fun v h' => v = .bool true ∧ Ext h h') h := by
  obtain ⟨ws, e1, e2⟩ := ofWords w0.wf
  have r3 := w0.rd
  rw [e1] at r3
  have s3 := w0.small; have s4 := w1.small; have l3 := w0.length; have l4 := w1.length
  exact BitsBytes_spec ⟨a, len, cap⟩ ⟨b, blen, bcap⟩ ws ys r3 w1.rd (ofBytes w1.wf) (by omega) (by omega) fun h' hx => ⟨rfl, hx⟩
end Go.Proofs.Ytoehmgmiambcnaa
