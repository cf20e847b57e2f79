/-
  CommitCovers.
-/
import Derived.Test.YtafjmdeldejonaaGreatKRef22
set_option linter.unusedSimpArgs false
set_option linter.unusedVariables false
namespace Go.Proofs.YtafjmdeldejonaaGreat
open Go Go.Ev

def tgA : List Int := 1 :: List.replicate 31 0
def tgB : List Int := 2 :: List.replicate 31 0
theorem okA22 : ShTag.ok tgA := okTag (by simp [tgA]) (by simp [tgA, isByte])
theorem okB22 : ShTag.ok tgB := okTag (by simp [tgB]) (by simp [tgB, isByte])
theorem bldA22 (w : World) : (Instr.build T.api_Tag #[(0, .int .u8 1)]).run Tryz.prog w = .ok (.agg (tagA tgA)) w := by kernel_rfl
theorem bldB22 (w : World) : (Instr.build T.api_Tag #[(0, .int .u8 2)]).run Tryz.prog w = .ok (.agg (tagA tgB)) w := by kernel_rfl
def thC0 : ShThing.T := thS (hideB ++ bodyB22 tgB (coinRows tgA 0 0))
def thC1 : ShThing.T := thS (hideB ++ bodyB22 tgB (coinRows tgA 0 1))
theorem coin1 : coinT false [] tgA 0 0 tgB = (numT ((0 : Nat) : Int), 0, [thC0]) := by kernel_rfl
theorem coin2 : coinT false [thC0] tgA 0 1 tgB = (numT ((1 : Nat) : Int), 0, [thC0, thC1]) := by kernel_rfl
theorem coin3 : coinT false [thC0, thC1] tgA 0 0 tgB = (numT ((0 : Nat) : Int), 0, [thC0, thC1]) := by kernel_rfl

set_option maxHeartbeats 1000000 in
theorem awake22_spec (g : GH) (mx : MaxC g 0) {R : Value → Heap → Prop} (H : ∀ g' : GH, Mv [] g g' → R (.bool true) g'.h) : HC Tryz.prog F.law22_awake #[] R g.h := by
  refine law22_awake.calls ?_
  unfold law22_awake.body
  replace mx := mx.base
  have m := Mv.refl [1, 2, 3, 4, 5] g.base
  refine makNew_spec g.base 1 2 false ⟨none, 0, 0⟩ [] (RdC.nil _ _ 0 _ _) (by simp) (by simp) fun p q1 m1 x => ⟨_, rfl, ?_⟩
  replace m := m.step m1 (by simp)
  refine ⟨_, bldA22, ?_⟩
  refine ⟨_, bldB22, ?_⟩
  refine coin_spec (by decide) x tgA okA22 0 0 tgB okB22 fun q2 m2 x2 => ⟨(_, _), rfl, ?_⟩
  replace m := m.step m2 (by simp)
  rw [coin1] at x2 ⊢
  dsimp only
  rw [zTag]
  refine newStore_C q2 3 (by rw [szTag]; simp [numT_length]) (by rw [szTag]; simp) (fun v hv => oneBy _ v hv) fun pa q3 m3 ba => ?_
  replace m := m.step m3 (by simp)
  replace x2 := x2.mv m3 (by simp) (by simp)
  refine ⟨_, bldA22, ?_⟩
  refine ⟨_, bldB22, ?_⟩
  refine coin_spec (by decide) x2 tgA okA22 0 1 tgB okB22 fun q4 m4 x4 => ⟨(_, _), rfl, ?_⟩
  replace m := m.step m4 (by simp)
  replace ba := ba.mv m4 (by simp)
  rw [show (numT ((0 : Nat) : Int), (0 : Int), [thC0]).2.2 = [thC0] from rfl, coin2] at x4
  rw [show (numT ((0 : Nat) : Int), (0 : Int), [thC0]).2.2 = [thC0] from rfl, coin2]
  dsimp only
  refine newStore_C q4 4 (by rw [szTag]; simp [numT_length]) (by rw [szTag]; simp) (fun v hv => oneBy _ v hv) fun pb q5 m5 bb => ?_
  replace m := m.step m5 (by simp)
  replace x4 := x4.mv m5 (by simp) (by simp)
  replace ba := ba.mv m5 (by simp)
  refine ⟨_, bldA22, ?_⟩
  refine ⟨_, bldB22, ?_⟩
  refine coin_spec (by decide) x4 tgA okA22 0 0 tgB okB22 fun q6 m6 x6 => ⟨(_, _), rfl, ?_⟩
  replace m := m.step m6 (by simp)
  replace ba := ba.mv m6 (by simp)
  replace bb := bb.mv m6 (by simp)
  rw [show (numT ((1 : Nat) : Int), (0 : Int), [thC0, thC1]).2.2 = [thC0, thC1] from rfl, coin3]
  dsimp only
  refine newStore_C q6 5 (by rw [szTag]; simp [numT_length]) (by rw [szTag]; simp) (fun v hv => oneBy _ v hv) fun pc q7 m7 bc => ?_
  replace m := m.step m7 (by simp)
  replace ba := ba.mv m7 (by simp)
  replace bb := bb.mv m7 (by simp)
  rw [if_pos (by rfl), if_pos (by rfl), if_pos (by rfl)]
  refine loadAgg_whole ba (tagA_size (numT_length _)) ?_
  refine loadAgg_whole bc (tagA_size (numT_length _)) ?_
  refine tag_eq (numT_length _) (numT_byte _) (numT_length _) (numT_byte _) ?_
  rw [if_pos (by simp)]
  refine loadAgg_whole ba (tagA_size (numT_length _)) ?_
  refine loadAgg_whole bb (tagA_size (numT_length _)) ?_
  refine tag_neq (numT_length _) (numT_byte _) (numT_length _) (numT_byte _) ?_
  rw [if_pos (by rw [decide_eq_true_eq]; intro e; exact absurd (numT_inj (by omega) (by omega) e) (by decide))]
  refine sliceArr_C 0 32 rfl rfl (by decide) ?_
  have rt : RdC 1 q7 3 ⟨some ⟨pa, 0 + 0 * sizeOfT Tryz.prog T.uint8, none⟩, 32 - 0, 32 - 0⟩ ((numT ((0 : Nat) : Int)).map byV) := by
    refine ⟨⟨by simp [numT_length], .inr ⟨pa, 0, _, _, _, by simp, ba.blk, fun i hi => ?_⟩⟩, .inr ⟨pa, rfl, lt_of_get ba.blk, ba.col⟩⟩
    simp
  refine tagsMark_spec (mx.mv m (by simp)) rt (Nat.le_refl _) (numT_byte _) (by rw [numT_length]; omega) fun q8 m8 => ⟨_, rfl, ?_⟩
  rw [markT_num]
  exact H (g.via q8 fun _ => 0) ((m.step m8 (by simp)).via (by simp) _)

theorem size22_spec {g : GH} {c : Nat} (v : Sl) (xss : List (List Int)) (hr : RowsC g c v xss) (hx : ∀ xs ∈ xss, xs.length ≤ 140737488351232) (hl : xss.length ≤ 140737488351232) {R : Value → Heap → Prop} (H : ∀ n : Nat, n ≤ 1000000000000000 → (n ≤ 3000 → xss.length + total xss ≤ 3000) → R (.int .i64 (n : Int)) g.h) :
    HC Tryz.prog F.law22_size #[.slice v.a v.n v.c] R g.h := by
  refine law22_size.calls (rows0 := v) ?_
  unfold law22_size.body
  have hn := hr.len
  refine loopW_rule (fun st h' => ∃ i : Nat, i ≤ xss.length ∧ st = (((v.n + total (xss.take i) : Nat) : Int), (i : Int)) ∧ g.h = h' ∧ v.n + total (xss.take i) ≤ 1000000000000000) (fun st => xss.length - st.2.toNat) ⟨0, by omega, by simp [total], rfl, by simp [total]; omega⟩ ?_
  rintro X _ _ ⟨i, hi, rfl, rfl, hb⟩ hX
  have htl := total_le (xss := xss) i
  dsimp only
  by_cases hlt : i < xss.length
  · rw [if_pos (by simp; omega)]
    by_cases hm : v.n + total (xss.take i) ≤ 3000
    · rw [if_pos (by simp; omega)]
      have := hx _ (List.getElem_mem hlt)
      refine hr.idx (by kernel_rfl) hlt fun s1 r1 _ => ?_
      have h1 := r1.len
      have ht := total_take hlt
      simp at h1
      rw [wrapI64 (by omega) (by omega), wrapSucc (by omega)]
      refine hX _ _ ⟨i + 1, by omega, by simp; omega, rfl, by omega⟩ (by simp; omega)
    · rw [if_neg (by simp; omega)]
      exact H _ (by omega) (by omega)
  · rw [if_neg (by simp; omega)]
    have hi' : i = xss.length := by omega
    subst hi'
    rw [List.take_length] at *
    exact H _ (by omega) (by omega)

theorem coverT_real (A : List ShThing.T) (nonce : List Int) (rows : List (List Int)) : (coverT true A nonce rows).2.2 = A := by
  unfold coverT sum2
  split <;> rfl

set_option maxHeartbeats 2000000 in
theorem CommitCovers_spec (g : GH) (mx : MaxC g 0) (t : List Int) (okt : ShTag.ok t) (nonce : List Int) (okn : ShTag.ok nonce) (v : Sl) (rows : List (List Int)) (hv : SlC g 0 (.sl (.int .u8)) v rows) {R : Value → Heap → Prop}
    (H : ∀ g' : GH, Mv [] g g' → R (.bool true) g'.h) : HC Tryz.prog F.law22_CommitCovers #[.agg (tagA t), .agg (tagA nonce), .slice v.a v.n v.c] R g.h := by
  refine law22_CommitCovers.calls (rows2 := v) ?_
  unfold law22_CommitCovers.body
  have htb := okTagB okt
  have hnb := okTagB okn
  replace mx := mx.base
  obtain ⟨rr, hby, hsm⟩ := hv.rows
  have hlen := hv.small
  have m := Mv.refl [1, 2, 3, 4, 5, 6, 7, 8] g.base
  have r0 : ∀ q : GH, Mv [1, 2, 3, 4, 5, 6, 7, 8] g.base q → RowsC q 0 v rows := fun q m => rr.arg m (by simp)
  have mx0 : ∀ q : GH, Mv [1, 2, 3, 4, 5, 6, 7, 8] g.base q → MaxC q.base 0 := fun q m => (mx.mv m (by simp)).base
  have fin : ∀ q : GH, Mv [1, 2, 3, 4, 5, 6, 7, 8] g.base q → HC Tryz.prog F.law22_awake #[] (fun v h' => ∃ x : Bool, v = .bool x ∧ R (.bool x) h') q.h := fun q m => awake22_spec q (mx.mv m (by simp)) fun q' m' => ⟨true, rfl, H (g.via q' fun _ => 0) ((m.step m' (by simp)).via (by simp) _)⟩
  refine new_C g.base 1 fun pt q1 m1 bt => ?_
  replace m := m.step m1 (by simp)
  refine new_C q1 2 fun pn q2 m2 bn => ?_
  replace m := m.step m2 (by simp)
  replace bt := bt.mv m2 (by simp)
  refine size22_spec v rows (r0 q2 m) hsm hlen fun n _ hn => ⟨_, rfl, ?_⟩
  try dsimp only
  by_cases hbig : (n : Int) > 3000
  · rw [if_pos (by simpa using hbig)]
    exact fin q2 m
  rw [if_neg (by simpa using hbig)]
  have hsz := hn (by omega)
  have hxl : ∀ x ∈ rows, x.length ≤ 3000 := fun x hx => by
    have : x.length ≤ total rows := by
      unfold total
      rw [List.length_flatten]
      exact le_of_mem_sum (List.mem_map.2 ⟨_, hx, rfl⟩)
    omega
  refine makNew_spec q2 3 4 true ⟨none, 0, 0⟩ [] (RdC.nil _ _ 0 _ _) (by simp) (by simp) fun pm q3 m3 x => ⟨_, rfl, ?_⟩
  replace m := m.step m3 (by simp)
  replace bt := bt.mv m3 (by simp)
  replace bn := bn.mv m3 (by simp)
  refine ⟨#[.bool true, slV ⟨none, 0, 0⟩, slV ⟨none, 0, 0⟩], fun w => by kernel_rfl, ?_⟩
  refine new_C q3 5 fun pr q4 m4 br => ?_
  replace m := m.step m4 (by simp)
  replace bt := bt.mv m4 (by simp)
  replace bn := bn.mv m4 (by simp)
  replace x := x.mv m4 (by simp) (by simp)
  have mk : Mk22 q4 5 pr := ⟨_, _, br, rfl⟩
  refine LentByteRows_C q4 6 v rows (r0 q4 m) (by omega) (fun x hx => by have := hxl x hx; omega) fun sl q5 m5 lent => ⟨sl, rfl, ?_⟩
  replace m := m.step m5 (by simp)
  replace bt := bt.mv m5 (by simp)
  replace bn := bn.mv m5 (by simp)
  replace x := x.mv m5 (by simp) (by simp)
  replace mk := mk.mv m5 (by simp)
  have hxl9 : ∀ x ∈ rows, x.length ≤ 90000000 := fun x hx => by have := hxl x hx; omega
  refine loadAgg_whole bn (tagA_size hnb.1) ?_
  refine cover_spec (by decide) x nonce okn sl rows lent.rows hby hxl9 (by omega) fun q6 m6 x6 => ⟨(_, _), rfl, ?_⟩
  rw [coverT_real] at x6
  dsimp only
  replace m := m.step m6 (by simp)
  replace bt := bt.mv m6 (by simp)
  replace bn := bn.mv m6 (by simp)
  replace mk := mk.mv m6 (by simp)
  replace lent := lent.mv m6 (by simp)
  have hct := coverT_tag true [] nonce rows
  have hcr := coverT_real [] nonce rows
  have okc : ShTag.ok (coverT true [] nonce rows).1 := okTag hct.1 hct.2
  generalize hcv : coverT true [] nonce rows = cv at hct okc hcr
  rw [zTag]
  refine newStore_C q6 7 (by rw [szTag]; simp [hct.1]) (by rw [szTag]; simp) (fun v hv => oneBy _ v hv) fun pa q7 m7 ba => ?_
  replace m := m.step m7 (by simp)
  replace bt := bt.mv m7 (by simp)
  replace bn := bn.mv m7 (by simp)
  replace mk := mk.mv m7 (by simp)
  replace lent := lent.mv m7 (by simp)
  replace x6 := x6.mv m7 (by simp) (by simp)
  refine loadAgg_whole bn (tagA_size hnb.1) ?_
  refine ref22Cover_spec mk nonce okn v rows (r0 q7 m) hby (by omega) (by omega) [] fun q8 m8 => ⟨(_, _), rfl, ?_⟩
  rw [hcv]
  dsimp only
  replace m := m.step m8 (by simp)
  replace bt := bt.mv m8 (by simp)
  replace bn := bn.mv m8 (by simp)
  replace lent := lent.mv m8 (by simp)
  replace x6 := x6.mv m8 (by simp) (by simp)
  replace ba := ba.mv m8 (by simp)
  refine newStore_C q8 8 (by rw [szTag]; simp [hct.1]) (by rw [szTag]; simp) (fun v hv => oneBy _ v hv) fun pb q9 m9 bb => ?_
  replace m := m.step m9 (by simp)
  replace bt := bt.mv m9 (by simp)
  replace bn := bn.mv m9 (by simp)
  replace lent := lent.mv m9 (by simp)
  replace x6 := x6.mv m9 (by simp) (by simp)
  replace ba := ba.mv m9 (by simp)
  refine loadAgg_whole ba (tagA_size hct.1) ?_
  refine loadAgg_whole bb (tagA_size hct.1) ?_
  refine tag_eq hct.1 hct.2 hct.1 hct.2 ?_
  rw [if_pos (by simp), if_pos (by simp)]
  refine loadAgg_whole bt (tagA_size htb.1) ?_
  refine loadAgg_whole bn (tagA_size hnb.1) ?_
  refine loadAgg_whole bt (tagA_size htb.1) ?_
  refine loadAgg_whole bb (tagA_size hct.1) ?_
  refine open_spec (by decide) x6 t okt nonce okn sl rows lent.rows hby hxl9 (by omega) fun q10 m10 x10 => ⟨_, rfl, ?_⟩
  rw [hcv] at x10 ⊢
  rw [hcr] at x10
  replace m := m.step m10 (by simp)
  replace bt := bt.mv m10 (by simp)
  replace bn := bn.mv m10 (by simp)
  replace lent := lent.mv m10 (by simp)
  replace ba := ba.mv m10 (by simp)
  replace bb := bb.mv m10 (by simp)
  refine ⟨stillAgg_whole bb (tagA_size hct.1), stillAgg_whole bt (tagA_size htb.1), ?_⟩
  refine fits_spec okt hct fun q11 m11 => ⟨_, rfl, ?_⟩
  replace m := m.step m11 (by simp)
  replace bn := bn.mv m11 (by simp)
  replace lent := lent.mv m11 (by simp)
  replace ba := ba.mv m11 (by simp)
  replace bb := bb.mv m11 (by simp)
  replace x10 := x10.mv m11 (by simp) (by simp)
  try dsimp only
  rw [if_pos (by simp)]
  refine loadAgg_whole ba (tagA_size hct.1) ?_
  refine loadAgg_whole bn (tagA_size hnb.1) ?_
  refine loadAgg_whole ba (tagA_size hct.1) ?_
  refine loadAgg_whole bb (tagA_size hct.1) ?_
  refine open_spec (by decide) x10 cv.1 okc nonce okn sl rows lent.rows hby hxl9 (by omega) fun q12 m12 x12 => ⟨_, rfl, ?_⟩
  rw [hcv]
  replace m := m.step m12 (by simp)
  replace lent := lent.mv m12 (by simp)
  replace ba := ba.mv m12 (by simp)
  replace bb := bb.mv m12 (by simp)
  refine ⟨stillAgg_whole bb (tagA_size hct.1), stillAgg_whole ba (tagA_size hct.1), ?_⟩
  refine fits_spec okc hct fun q13 m13 => ⟨_, rfl, ?_⟩
  replace m := m.step m13 (by simp)
  replace lent := lent.mv m13 (by simp)
  try dsimp only
  rw [if_pos (by simp)]
  refine KeptByteRows_C sl v rows lent (r0 q13 m) (by omega) (fun x hx => by have := hxl x hx; omega) ⟨true, rfl, ?_⟩
  try dsimp only
  rw [if_pos rfl]
  exact fin q13 m

end Go.Proofs.YtafjmdeldejonaaGreat
