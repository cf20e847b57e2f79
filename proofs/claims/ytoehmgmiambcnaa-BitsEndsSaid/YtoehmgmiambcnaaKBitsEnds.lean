/-
  The law BitsEnds: what it answers.
-/
import Derived.Test.YtoehmgmiambcnaaKBitsTurns
import Derived.Test.YtoehmgmiambcnaaKBitsPlaces
import Derived.Test.YtoehmgmiambcnaaKBitsBytes
set_option linter.unusedSimpArgs false
set_option linter.unusedVariables false
namespace Go.Proofs.Ytoehmgmiambcnaa
open Go Go.Ev

/-- The address of an element; it is loaded later. -/
theorem idxAt {sz : Nat} {h : Heap} {s : Sl} {vs : List Value} {i : Int} {K : Addr → Prop} (r : Rd 1 h s vs) (hsz : sz = 1) (h0 : 0 ≤ i) (hi : i.toNat < vs.length)
    (hK : ∀ a : Addr, (∀ (h' : Heap) (k : Kd) (x : k.T) (L : k.T → Prop), Rd 1 h' s vs → vs[i.toNat]? = some (k.inj x) → L x → loadK k h' (some a) L) → K a) : idxK s i sz K := by
  subst hsz
  rcases r.2 with hn | ⟨b, o, c, e, fz, ha, hb, hc⟩
  · subst hn; simp at hi
  · refine ⟨_, ha, ⟨h0, by rw [r.len]; omega⟩, ?_⟩
    rw [Nat.mul_one, addr_add]
    refine hK _ ?_
    intro h' k x L r' hx hL
    rcases r'.2 with hn | ⟨b', o', c', e', fz', ha', hb', hc'⟩
    · subst hn; simp at hi
    · rw [ha] at ha'
      cases ha'
      exact ⟨b, o + i.toNat, c', e', fz', x, rfl, hb', by rw [hc' _ hi]; exact hx, hL⟩

def endsX : List (BitVec 32) := [0#32, 1#32, 2#32, 3#32, 2147483648#32, 4294967295#32, 2147483649#32, 305419896#32, 2863311530#32]
def endsN : List Int := [-9223372036854775808, -65, -64, -33, -32, -31, -1, 0, 1, 31, 32, 33, 63, 64, 65, 9223372036854775807]
def endsB : List Int := [255, 0, 1, 128, 7, 8, 9, 10, 11]

theorem endsN_ok : ∀ n ∈ endsN, -9223372036854775808 ≤ n ∧ n ≤ 9223372036854775807 := by decide

set_option maxRecDepth 100000 in
theorem BitsEnds_spec {R : Value → Heap → Prop} {h : Heap} (H : ∀ h', Ext h h' → R (.bool true) h') : HC Try.prog F.law01_BitsEnds #[] R h := by
  refine law01_BitsEnds.calls ?_
  unfold law01_BitsEnds.body
  refine newSl_intro rfl fun s h1 own1 hsn hsc x1 _ => ?_
  have r1 : Rd 1 h1 s (endsX.map wv) := by
    rw [show endsX.map wv = [Value.int .u32 0, .int .u32 1, .int .u32 2, .int .u32 3, .int .u32 2147483648, .int .u32 4294967295, .int .u32 2147483649, .int .u32 305419896, .int .u32 2863311530] from by kernel_rfl]
    exact own1.rd
  have hs1 : s.plain := own1.plain
  refine newSl_intro rfl fun t h2 own2 htn _ x2 _ => ?_
  have r2 : Rd 1 h2 t (endsN.map (.int .i64)) := own2.rd
  replace r1 := r1.ext x2
  have x02 := x1.trans x2
  have hz4 : sizeOfT Try.prog T.uint32 = 1 := by kernel_rfl
  have hz8 : sizeOfT Try.prog T.int = 1 := by kernel_rfl
  have hX : ∀ i (hi : i < 9), (endsX.map wv)[i]? = some (Kd.inj (.int .u32) ((endsX[i]'hi).toNat : Int)) := fun i hi => getElem?_map_lt _ hi
  have hN : ∀ i (hi : i < 16), (endsN.map (.int .i64))[i]? = some (Kd.inj (.int .i64) (endsN[i]'hi)) := fun i hi => getElem?_map_lt _ hi
  refine loopW_rule (fun st h' => ∃ i : Nat, i ≤ 9 ∧ st = (i : Int) ∧ Ext h2 h') (fun st => 9 - st.toNat) ⟨0, by omega, rfl, Frm.refl _ _⟩ ?_
  rintro X _ h3 ⟨i, hi, rfl, x3⟩ hXX
  by_cases hlt : i < 9
  · rw [if_pos (by simp [hsn]; omega)]
    refine loopW_rule (fun st h' => ∃ j : Nat, j ≤ 16 ∧ st = (j : Int) ∧ Ext h2 h') (fun st => 16 - st.toNat) ⟨0, by omega, rfl, x3⟩ ?_
    rintro Y _ h4 ⟨j, hj, rfl, x4⟩ hYY
    by_cases hj16 : j < 16
    · rw [if_pos (by simp [htn]; omega)]
      have q1 := r1.ext x4
      have q2 := r2.ext x4
      refine idxAt q1 hz4 (by omega) (by simp [endsX]; omega) fun a1 l1 => ?_
      refine idxAt q2 hz8 (by omega) (by simp [endsN]; omega) fun a2 l2 => ?_
      refine idxAt q2 hz8 (by omega) (by simp [endsN]; omega) fun a3 l3 => ?_
      refine ⟨by simp [htn], ?_⟩
      have hm : Int.tmod (IntKind.i64.wrap ((j : Int) + 3)) (t.n : Int) = (((j + 3) % 16 : Nat) : Int) := by
        rw [wrapI64 (by omega) (by omega), Int.tmod_eq_emod_of_nonneg (by omega), htn]; omega
      rw [hm]
      have hj3 : (j + 3) % 16 < 16 := by omega
      refine idxAt q2 hz8 (by omega) (by simp [endsN]; omega) fun a4 l4 => ?_
      refine l1 h4 (.int .u32) _ _ q1 (hX i hlt) ?_
      refine l2 h4 (.int .i64) _ _ q2 (hN j hj16) ?_
      refine l3 h4 (.int .i64) _ _ q2 (hN j hj16) ?_
      refine l4 h4 (.int .i64) _ _ q2 (hN _ hj3) ?_
      refine newSl_intro rfl fun u h4b ownu _ _ x4b _ => ?_
      refine BitsTurns_spec (endsX[i]'hlt) (endsN[j]'hj16) (endsN_ok _ (List.getElem_mem _)) u [endsN[j]'hj16, 7, endsN[(j + 3) % 16]'hj3] ownu.rd ?_ fun h5 x5 => ⟨_, rfl, ?_⟩
      · intro n hn
        simp only [List.mem_cons, List.mem_nil_iff, or_false] at hn
        rcases hn with rfl | rfl | rfl
        · exact endsN_ok _ (List.getElem_mem _)
        · omega
        · exact endsN_ok _ (List.getElem_mem _)
      · try dsimp only
        rw [if_neg (by simp), wrapSucc (by omega)]
        exact hYY _ _ ⟨j + 1, by omega, rfl, (x4.trans x4b).trans x5⟩ (by simp; omega)
    · rw [if_neg (by simp [htn]; omega)]
      have q1 := r1.ext x4
      refine idxAt q1 hz4 (by omega) (by simp [endsX]; omega) fun a1 l1 => ?_
      refine l1 h4 (.int .u32) _ _ q1 (hX i hlt) ?_
      refine BitsTurns_spec (endsX[i]'hlt) 0 (by omega) ⟨none, 0, 0⟩ [] (Rd.nil _ _ _ _) (by simp) fun h5 x5 => ⟨_, rfl, ?_⟩
      try dsimp only
      rw [if_neg (by simp)]
      have x5' := x4.trans x5
      have q5 := r1.ext x5'
      refine idxAt q5 hz4 (by omega) (by simp [endsX]; omega) fun a2 l2 => ?_
      refine ⟨by decide, ?_⟩
      have hm1 : Int.tmod (IntKind.i64.wrap ((i : Int) + 1)) 9 = (((i + 1) % 9 : Nat) : Int) := by
        rw [wrapI64 (by omega) (by omega), Int.tmod_eq_emod_of_nonneg (by omega)]; omega
      have hm2 : Int.tmod (IntKind.i64.wrap ((i : Int) + 2)) 9 = (((i + 2) % 9 : Nat) : Int) := by
        rw [wrapI64 (by omega) (by omega), Int.tmod_eq_emod_of_nonneg (by omega)]; omega
      rw [hm1, hm2]
      have hi1 : (i + 1) % 9 < 9 := by omega
      have hi2 : (i + 2) % 9 < 9 := by omega
      refine idxAt q5 hz4 (by omega) (by simp [endsX]; omega) fun a3 l3 => ?_
      refine ⟨by decide, ?_⟩
      refine idxAt q5 hz4 (by omega) (by simp [endsX]; omega) fun a4 l4 => ?_
      refine slice_to hs1 rfl (by omega) ?_
      refine l2 h5 (.int .u32) _ _ q5 (hX i hlt) ?_
      refine l3 h5 (.int .u32) _ _ q5 (hX _ hi1) ?_
      refine l4 h5 (.int .u32) _ _ q5 (hX _ hi2) ?_
      have hT : ∀ h' : Heap, Ext h2 h' → Rd 1 h' ⟨s.a, i, s.c⟩ ((endsX.take i).map wv) := fun h' x => by
        rw [List.map_take]; exact (r1.ext x).take (by simp [endsX]; omega)
      refine BitsPlaces_spec _ _ _ ⟨s.a, i, s.c⟩ (endsX.take i) (hT h5 x5') fun h6 x6 => ⟨_, rfl, ?_⟩
      try dsimp only
      rw [if_neg (by simp)]
      have x6' := x5'.trans x6
      have q6 := r1.ext x6'
      refine idxAt q6 hz4 (by omega) (by simp [endsX]; omega) fun a5 l5 => ?_
      refine idxAt q6 hz4 (by omega) (by simp [endsX]; omega) fun a6 l6 => ?_
      refine idxAt q6 hz4 (by omega) (by simp [endsX]; omega) fun a7 l7 => ?_
      refine idxAt q6 hz4 (by omega) (by simp [endsX]; omega) fun a8 l8 => ?_
      refine idxAt q6 hz4 (by omega) (by simp [endsX]; omega) fun a9 l9 => ?_
      refine l5 h6 (.int .u32) _ _ q6 (hX i hlt) ?_
      refine l6 h6 (.int .u32) _ _ q6 (hX i hlt) ?_
      refine l7 h6 (.int .u32) _ _ q6 (hX i hlt) ?_
      refine l8 h6 (.int .u32) _ _ q6 (hX i hlt) ?_
      refine l9 h6 (.int .u32) _ _ q6 (hX i hlt) ?_
      rw [notV]
      refine newSl_intro rfl fun u h6b ownu _ _ x6b _ => ?_
      refine BitsPlaces_spec _ _ _ u [endsX[i]'hlt, ~~~(endsX[i]'hlt)] ownu.rd fun h7 x7 => ⟨_, rfl, ?_⟩
      try dsimp only
      rw [if_neg (by simp)]
      have x7' := (x6'.trans x6b).trans x7
      refine slice_to hs1 rfl (by omega) ?_
      refine make_rule (e := T.uint8) (by_ := 1) (z := .int .u8 0) (by kernel_rfl) (by kernel_rfl) rfl (by omega) (Nat.le_refl i) (by omega) ?_
      have x8 := x7'.trans (Ext.push h7 (.cells (Array.replicate i (.int .u8 0)) T.uint8 (0, 0)))
      have rz : Rd 1 (h7.push (.cells (Array.replicate i (.int .u8 0)) T.uint8 (0, 0))) ⟨some ⟨h7.size, 0, none⟩, i, i⟩ ((List.replicate i (0 : Int)).map bv) := by
        have := Rd.new h7 (Array.replicate i (.int .u8 0)) T.uint8 i i (by simp)
        simpa using this
      refine BitsBytes_spec ⟨s.a, i, s.c⟩ ⟨_, _, _⟩ (endsX.take i) (List.replicate i 0) (hT _ x8) rz (by intro y hy; rw [List.eq_of_mem_replicate hy]; unfold isByte; omega) (by simp; omega) (by simp; omega) fun h9 x9 => ⟨_, rfl, ?_⟩
      try dsimp only
      rw [if_neg (by simp)]
      have x9' := x8.trans x9
      refine ⟨i, 9, 9, hsc.symm, hsn.symm, ⟨rfl, by omega⟩, ?_⟩
      refine newSl_intro rfl fun u h10 ownu _ huc x9b _ => ?_
      have rb : Rd 1 h10 u (endsB.map bv) := ownu.rd
      have x10 := x9'.trans x9b
      refine slice_to ownu.plain rfl (by omega) ?_
      have rb' := rb.take (n := i) (c := u.c) (by simp [endsB]; omega)
      rw [← List.map_take] at rb'
      have rd := (r1.ext x10).drop (n := i) (c := 9) (sz := sizeOfT Try.prog T.uint32) hz4 (by simp [endsX]; omega) (by omega)
      rw [← List.map_drop, hsc, hsn] at rd
      refine BitsBytes_spec ⟨_, _, _⟩ ⟨_, _, _⟩ (endsX.drop i) (endsB.take i) rd rb' (fun y hy => ?_) (by simp [endsX]; omega) (by simp [endsB]; omega) fun h11 x11 => ⟨_, rfl, ?_⟩
      · have : ∀ y ∈ endsB, isByte y := by unfold isByte; decide
        exact this y (List.mem_of_mem_take hy)
      try dsimp only
      rw [if_neg (by simp), wrapSucc (by omega)]
      exact hXX _ _ ⟨i + 1, by omega, rfl, x10.trans x11⟩ (by simp; omega)
  · rw [if_neg (by simp [hsn]; omega)]
    refine newSl_intro rfl fun u h3b ownu _ _ x3b _ => ?_
    refine Words_spec u [1, 2, 3] ownu.rd (by unfold isByte; decide) (by decide) ?_
    intro s4 h4 e4 r4 x4 b4
    rw [if_neg (by decide)] at r4
    obtain ⟨rfl, own4⟩ := r4
    refine ⟨(s4, 4), rfl, ?_⟩
    try dsimp only
    rw [if_pos (by decide)]
    exact awake_spec fun h' hx => ⟨_, rfl, H h' ((((x02.trans x3).trans x3b).trans x4).trans hx)⟩

theorem BitsEnds_walk (h : Heap) : HC Try.prog F.law01_BitsEnds #[] (fun v h' => v = .bool true ∧ Ext h h') h := BitsEnds_spec fun h' hx => ⟨rfl, hx⟩
end Go.Proofs.Ytoehmgmiambcnaa
