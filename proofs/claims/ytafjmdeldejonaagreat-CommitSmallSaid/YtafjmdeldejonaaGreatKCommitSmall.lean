/-
  The statement CommitSmall.
-/
import Derived.Test.YtafjmdeldejonaaGreatKCommitTells
import Derived.Test.YtafjmdeldejonaaGreatKNone22
set_option linter.unusedSimpArgs false
set_option linter.unusedVariables false
namespace Go.Proofs.YtafjmdeldejonaaGreat
open Go Go.Ev

theorem zerosMap22 (n : Nat) : List.replicate n (Value.int .u8 0) = (List.replicate n (0 : Int)).map byV := by rw [List.map_replicate]
theorem zerosByte22 (n : Nat) : ∀ z ∈ List.replicate n (0 : Int), isByte z := fun z hz => by rw [List.eq_of_mem_replicate hz]; simp [isByte]
theorem bldMv0 (w : World) : (Instr.build T.api_Move #[]).run Tryz.prog w = .ok (.agg ⟨ShMove.enc move0⟩) w := by kernel_rfl
def tg1 (b : Int) : List Int := b :: List.replicate 31 0
def tg31 : List Int := List.replicate 31 0 ++ [9]
theorem okTg1 {b : Int} (h : isByte b) : ShTag.ok (tg1 b) := okTag (by simp [tg1]) (by
  intro x hx
  simp only [tg1, List.mem_cons] at hx
  rcases hx with rfl | hx
  · exact h
  · exact zerosByte22 _ x hx)
theorem okTg31 : ShTag.ok tg31 := okTag (by simp [tg31]) (by
  intro x hx
  simp only [tg31, List.mem_append, List.mem_singleton] at hx
  rcases hx with hx | rfl
  · exact zerosByte22 _ x hx
  · simp [isByte])
theorem bldTg1 (b : Int) (w : World) : (Instr.build T.api_Tag #[(0, .int .u8 b)]).run Tryz.prog w = .ok (.agg (tagA (tg1 b))) w := by kernel_rfl
theorem bldTg31 (w : World) : (Instr.build T.api_Tag #[(31, .int .u8 9)]).run Tryz.prog w = .ok (.agg (tagA tg31)) w := by kernel_rfl
theorem bldTgZ (w : World) : (Instr.build T.api_Tag #[]).run Tryz.prog w = .ok (.agg (tagA zero32)) w := by kernel_rfl
theorem bldMvA (a : Int) (w : World) : (Instr.build T.api_Move #[(0, .int .i64 a), (1, .int .i64 5)]).run Tryz.prog w = .ok (.agg ⟨ShMove.enc (a, 5, 0, ())⟩) w := by kernel_rfl
theorem bldMvB (b : Int) (w : World) : (Instr.build T.api_Move #[(0, .int .i64 1), (1, .int .i64 b)]).run Tryz.prog w = .ok (.agg ⟨ShMove.enc (1, b, 0, ())⟩) w := by kernel_rfl
theorem bldMvC (c : Int) (w : World) : (Instr.build T.api_Move #[(2, .int .i64 c)]).run Tryz.prog w = .ok (.agg ⟨ShMove.enc (0, 0, c, ())⟩) w := by kernel_rfl

abbrev KN22 : List Nat := [1, 2, 3, 4, 5, 6]
set_option maxHeartbeats 4000000 in
theorem none22_spec (g : GH) {R : Value → Heap → Prop} (H : ∀ g' : GH, Mv [] g g' → R (.bool true) g'.h) : HC Tryz.prog F.law22_none #[] R g.h := by
  refine law22_none.calls ?_
  unfold law22_none.body
  have m := Mv.refl KN22 g.base
  refine ⟨#[.map none, .bool false, .slice none 0 0], fun w => by kernel_rfl, ?_⟩
  refine new_C g.base 1 fun p q1 m1 b => ?_
  replace m := m.step m1 (by simp)
  refine newSl_C q1 2 rfl fun s q2 m2 o hn hc => ?_
  replace m := m.step m2 (by simp)
  have b2 := b.mv m2 (by simp)
  have r2 := o.rd
  refine loopW_rule (fun st h' => ∃ (i : Nat) (q : GH), i ≤ 2 ∧ st = (i : Int) ∧ h' = q.h ∧ Mv KN22 g.base q ∧ Mv [3, 4, 5, 6] q2 q) (fun st => 2 - st.toNat) ⟨0, q2, by omega, rfl, rfl, m, Mv.refl _ _⟩ ?_
  clear m m1 m2
  rintro X _ _ ⟨i, q, hi, rfl, rfl, m, mq⟩ hX
  try dsimp only
  by_cases hlt : i < 2
  · rw [if_pos (by simp; omega)]
    have two : ∃ v : Option Addr, NoC q2 1 v ∧ ([.pointer none, .pointer (some ⟨p, 0, none⟩)] : List Value)[i]? = some (Kd.ptr.inj v) := by
      have : i = 0 ∨ i = 1 := by omega
      rcases this with rfl | rfl
      · exact ⟨none, .inl rfl, rfl⟩
      · exact ⟨some ⟨p, 0, none⟩, .inr ⟨p, _, _, rfl, b2, rfl⟩, rfl⟩
    obtain ⟨v, xv, hv⟩ := two
    have at2 : ∀ q' : GH, Mv [3, 4, 5, 6] q2 q' → ∃ a : Addr, (∀ K : Addr → Prop, K a → idxK s (i : Int) (sizeOfT Tryz.prog T.p_tags_Maker) K) ∧ (∀ K : Option Addr → Prop, K v → loadK .ptr q'.h (some a) K) := by
      intro q' m'
      obtain ⟨b, o', cc, hidx⟩ := (r2.mv m' (by simp)).at_ (by simp) (by kernel_rfl : sizeOfT Tryz.prog T.p_tags_Maker = 1)
      exact ⟨_, fun K hK => hidx _ _ (by omega) (by simp; omega) hK, fun K hK => loadK_cells cc v (j := i) (by simp) (by simpa using hv) hK⟩
    clear hv r2 b2 o
    refine joinW_intro (fun st h' => ∃ (pa : Nat) (q' : GH), st = (some ⟨pa, 0, none⟩, 1) ∧ h' = q'.h ∧ Mv KN22 g.base q' ∧ Mv [3, 4, 5, 6] q2 q' ∧ BlkC q' 4 pa (tagA zero32) T.api_Tag) ?_ ?_
    · intro J hJ
      obtain ⟨a, ia, la⟩ := at2 q mq
      refine ia _ ?_
      refine ⟨_, bldTg1 1, ?_⟩
      refine la _ ?_
      clear ia la hX at2
      obtain ⟨S, hS⟩ : ∃ S : Option Nat → GH → Prop, ∀ ot q', S ot q' ↔ (Mv KN22 g.base q' ∧ Mv [3, 4, 5, 6] q2 q' ∧ (∀ p, ot = some p → BlkC q' 4 p (tagA zero32) T.api_Tag)) := ⟨fun ot q' => _, fun _ _ => Iff.rfl⟩
      have sZ : ∀ {q : GH} {ot : Option Nat} {K : Sl → Heap → Prop}, S ot q → (∀ (s : Sl) (q' : GH), S ot q' → K s q'.h) → opK Tryz.prog .slice (Instr.makeSlice T.sl_uint8 (.int .i64 131072) (.int .i64 131072)) K q.h := by
        intro q ot K s h
        obtain ⟨m, mq, f⟩ := (hS _ _).1 s
        exact make_C (e := T.uint8) (by_ := 1) (z := .int .u8 0) (l := 131072) (k := 131072) (by kernel_rfl) (by kernel_rfl) rfl (by omega) q 3 (by omega) (by omega) fun s' q' e o hn hc _ => h s' q' ((hS _ _).2 ⟨m.step e (by simp), mq.step e (by simp), fun p hp => (f p hp).mv e (by simp)⟩)
      have sR : ∀ {q : GH} {ot : Option Nat} {b : Sl} {K : Sl → Heap → Prop}, S ot q → (∀ (s : Sl) (q' : GH), S ot q' → K s q'.h) → newSlK q.h 1 #[.slice b.a b.n b.c] T.sl_uint8 K := by
        intro q ot b K s h
        obtain ⟨m, mq, f⟩ := (hS _ _).1 s
        exact newSl_C q 3 rfl fun s' q' e o hn hc => h s' q' ((hS _ _).2 ⟨m.step e (by simp), mq.step e (by simp), fun p hp => (f p hp).mv e (by simp)⟩)
      have sT : ∀ {q : GH} {K : Option Addr → Heap → Prop}, S none q → (∀ (p : Nat) (q' : GH), S (some p) q' → K (some ⟨p, 0, none⟩) q'.h) → newK q.h (zerosOf Tryz.prog T.api_Tag) T.api_Tag K := by
        intro q K s h
        obtain ⟨m, mq, f⟩ := (hS _ _).1 s
        rw [zTag]
        exact new_C q 4 fun p q' e b => h p q' ((hS _ _).2 ⟨m.step e (by simp), mq.step e (by simp), fun p hp => by cases hp; exact b⟩)
      have sC : ∀ {q : GH} {ot : Option Nat} {b : Sl} {K : Array Value × Int → Heap → Prop}, S ot q → (∀ (q' : GH), S ot q' → K (tagA zero32, 1) q'.h) → callK Tryz.prog (Kd.pair .agg (.int .i64)) F.commit_Cover #[.pointer v, .agg (tagA (tg1 1)), .slice b.a b.n b.c] K q.h := by
        intro q ot b K s h
        obtain ⟨m, mq, f⟩ := (hS _ _).1 s
        exact noCover_spec (xv.mv mq (by simp)) _ b fun q' e => ⟨(_, _), rfl, h q' ((hS _ _).2 ⟨m.step e (by simp), mq.step e (by simp), fun p hp => (f p hp).mv e (by simp)⟩)⟩
      have sS : ∀ {q : GH} {p : Nat} {K : Heap → Prop}, S (some p) q → (∀ (q' : GH), S (some p) q' → K q'.h) → storeAggK (sizeOfT Tryz.prog T.api_Tag) q.h (some ⟨p, 0, none⟩) (tagA zero32) K := by
        intro q p K s h
        obtain ⟨m, mq, f⟩ := (hS _ _).1 s
        refine storeAgg_C (f p rfl) (by rw [szTag]; simp [zero32]) (by rw [szTag]; simp [zero32]) (fun v hv => oneBy _ v hv) fun q' e b => h q' ((hS _ _).2 ⟨m.step e (by simp), mq.step e (by simp), fun p hp => ?_⟩)
        cases hp
        rw [overA_all (by simp)] at b
        exact b
      have fin : ∀ {q : GH} {p : Nat}, S (some p) q → J (some ⟨p, 0, none⟩, 1) q.h := by
        intro q p s
        obtain ⟨m, mq, f⟩ := (hS _ _).1 s
        exact hJ _ _ ⟨p, q, rfl, rfl, m, mq, f p rfl⟩
      have st : S none q := (hS _ _).2 ⟨m, mq, fun _ e => by cases e⟩
      clear hS m mq
      repeat' (first
        | with_reducible exact fin st
        | (with_reducible refine sS st ?_; intro q' st; try dsimp only)
        | (with_reducible refine sC st ?_; intro q' st; try dsimp only)
        | (with_reducible refine sT st ?_; intro s' q' st; try dsimp only)
        | (with_reducible refine sR st ?_; intro s' q' st; try dsimp only)
        | (with_reducible refine sZ st ?_; intro s' q' st; try dsimp only)
        | with_reducible refine And.intro ?_ ?_)
    rintro _ _ ⟨pa, q3, rfl, rfl, m, mq, ba⟩
    dsimp only
    have hz : zero32.length = 32 ∧ ∀ x ∈ zero32, isByte x := zero32_tag
    obtain ⟨a, ia, la⟩ := at2 q3 mq
    refine ia _ ?_
    refine la _ ?_
    refine ⟨_, bldTgZ, ?_⟩
    refine ⟨_, bldTgZ, ?_⟩
    refine noCoin_spec (xv.mv mq (by simp)) zero32 9 9 zero32 ok0 fun q4 m4 => ⟨(_, _), rfl, ?_⟩
    replace m := m.step m4 (by simp)
    replace mq := mq.step m4 (by simp)
    replace ba := ba.mv m4 (by simp)
    dsimp only
    rw [zTag]
    refine newStore_C q4 5 (by rw [szTag]; simp [zero32]) (by rw [szTag]; simp) (fun v hv => oneBy _ v hv) fun pb q5 m5 bb => ?_
    replace m := m.step m5 (by simp)
    replace mq := mq.step m5 (by simp)
    replace ba := ba.mv m5 (by simp)
    obtain ⟨a, ia, la⟩ := at2 q5 mq
    refine ia _ ?_
    refine la _ ?_
    refine ⟨_, bldTgZ, ?_⟩
    refine ⟨_, bldMv0, ?_⟩
    refine ⟨_, bldTgZ, ?_⟩
    refine noMove_spec (xv.mv mq (by simp)) zero32 (-1) move0 okMove0 zero32 ok0 fun q6 m6 => ⟨(_, _), rfl, ?_⟩
    replace m := m.step m6 (by simp)
    replace mq := mq.step m6 (by simp)
    replace ba := ba.mv m6 (by simp)
    replace bb := bb.mv m6 (by simp)
    dsimp only
    refine newStore_C q6 6 (by rw [szTag]; simp [zero32]) (by rw [szTag]; simp) (fun v hv => oneBy _ v hv) fun pc q7 m7 bc => ?_
    replace m := m.step m7 (by simp)
    replace mq := mq.step m7 (by simp)
    replace ba := ba.mv m7 (by simp)
    replace bb := bb.mv m7 (by simp)
    clear ia la
    refine loadAgg_whole ba (tagA_size hz.1) ?_
    refine loadAgg_whole bb (tagA_size hz.1) ?_
    refine tag_neq hz.1 hz.2 hz.1 hz.2 ?_
    have tail : idxK s (i : Int) (sizeOfT Tryz.prog T.p_tags_Maker) (fun (a_29 : Addr) =>
      loadK .ptr q7.h ((some a_29)) (fun (v30 : Option Addr) =>
      loadAggK (sizeOfT Tryz.prog T.api_Tag) q7.h (some ⟨pa, 0, none⟩) (fun (v31 : Array Value) =>
      loadAggK (sizeOfT Tryz.prog T.api_Tag) q7.h (some ⟨pa, 0, none⟩) (fun (v32 : Array Value) =>
      callK Tryz.prog (.int .i64) F.commit_Open #[.pointer v30, .agg v31, .agg v32, .slice none 0 0] (fun (v33 : Int) h =>
      if (v33 != 1) = true then
      R (.bool false) h
      else
      idxK s (i : Int) (sizeOfT Tryz.prog T.p_tags_Maker) (fun (a_34 : Addr) =>
      loadK .ptr h ((some a_34)) (fun (v35 : Option Addr) =>
      loadAggK (sizeOfT Tryz.prog T.api_Tag) h (some ⟨pa, 0, none⟩) (fun (v36 : Array Value) =>
      loadAggK (sizeOfT Tryz.prog T.api_Tag) h (some ⟨pa, 0, none⟩) (fun (v37 : Array Value) =>
      loadAggK (sizeOfT Tryz.prog T.api_Tag) h (some ⟨pa, 0, none⟩) (fun (v38 : Array Value) =>
      callK Tryz.prog (.int .i64) F.commit_OpenCoin #[.pointer v35, .agg v36, .agg v37, .int .i64 0, .int .i64 0, .agg v38] (fun (v39 : Int) h =>
      if (v39 != 1) = true then
      R (.bool false) h
      else
      idxK s (i : Int) (sizeOfT Tryz.prog T.p_tags_Maker) (fun (a_40 : Addr) =>
      buildK Tryz.prog (Instr.build T.api_Move #[]) (fun (v41 : Array Value) =>
      loadK .ptr h ((some a_40)) (fun (v42 : Option Addr) =>
      loadAggK (sizeOfT Tryz.prog T.api_Tag) h (some ⟨pa, 0, none⟩) (fun (v43 : Array Value) =>
      loadAggK (sizeOfT Tryz.prog T.api_Tag) h (some ⟨pa, 0, none⟩) (fun (v44 : Array Value) =>
      loadAggK (sizeOfT Tryz.prog T.api_Tag) h (some ⟨pa, 0, none⟩) (fun (v45 : Array Value) =>
      callK Tryz.prog (.int .i64) F.commit_OpenMove #[.pointer v42, .agg v43, .agg v44, .int .i64 0, .agg v41, .agg v45] (fun (v46 : Int) h =>
      if (v46 != 1) = true then
      R (.bool false) h
      else
      X (IntKind.i64.wrap ((i : Int) + 1)) h) h))))))) h)))))) q7.h)))) := by
      obtain ⟨a, ia, la⟩ := at2 q7 mq
      refine ia _ ?_
      refine la _ ?_
      refine loadAgg_whole ba (tagA_size hz.1) ?_
      refine loadAgg_whole ba (tagA_size hz.1) ?_
      refine noOpen_spec (xv.mv mq (by simp)) zero32 ok0 zero32 ok0 ⟨none, 0, 0⟩ fun q8 m8 => ⟨_, rfl, ?_⟩
      replace m := m.step m8 (by simp)
      replace mq := mq.step m8 (by simp)
      replace ba := ba.mv m8 (by simp)
      dsimp only
      rw [if_neg (by simp)]
      obtain ⟨a, ia, la⟩ := at2 q8 mq
      refine ia _ ?_
      refine la _ ?_
      refine loadAgg_whole ba (tagA_size hz.1) ?_
      refine loadAgg_whole ba (tagA_size hz.1) ?_
      refine loadAgg_whole ba (tagA_size hz.1) ?_
      refine noOpenCoin_spec (xv.mv mq (by simp)) zero32 ok0 zero32 ok0 0 0 zero32 ok0 fun q9 m9 => ⟨_, rfl, ?_⟩
      replace m := m.step m9 (by simp)
      replace mq := mq.step m9 (by simp)
      replace ba := ba.mv m9 (by simp)
      dsimp only
      rw [if_neg (by simp)]
      obtain ⟨a, ia, la⟩ := at2 q9 mq
      refine ia _ ?_
      refine ⟨_, bldMv0, ?_⟩
      refine la _ ?_
      refine loadAgg_whole ba (tagA_size hz.1) ?_
      refine loadAgg_whole ba (tagA_size hz.1) ?_
      refine loadAgg_whole ba (tagA_size hz.1) ?_
      refine noOpenMove_spec (xv.mv mq (by simp)) zero32 ok0 zero32 ok0 0 move0 okMove0 zero32 ok0 fun q10 m10 => ⟨_, rfl, ?_⟩
      dsimp only
      rw [if_neg (by simp), wrapSucc (by omega)]
      exact hX _ _ ⟨i + 1, q10, by omega, rfl, rfl, m.step m10 (by simp), mq.step m10 (by simp)⟩ (by simp; omega)
    refine ⟨?_, ?_⟩
    · rw [if_neg (by simp)]
      refine loadAgg_whole bb (tagA_size hz.1) ?_
      refine loadAgg_whole bc (tagA_size hz.1) ?_
      refine tag_neq hz.1 hz.2 hz.1 hz.2 ?_
      rw [if_neg (by simp)]
      refine ⟨_, bldTgZ, ?_⟩
      refine loadAgg_whole bc (tagA_size hz.1) ?_
      refine tag_neq hz.1 hz.2 hz.1 hz.2 ?_
      rw [if_neg (by simp), if_neg (by simp), if_neg (by simp), if_neg (by simp)]
      exact tail
    · rw [if_neg (by simp)]
      refine loadAgg_whole bc (tagA_size hz.1) ?_
      refine loadAgg_whole bb (tagA_size hz.1) ?_
      refine tag_neq hz.1 hz.2 hz.1 hz.2 ?_
      rw [if_neg (by simp)]
      refine ⟨_, bldTgZ, ?_⟩
      refine loadAgg_whole bc (tagA_size hz.1) ?_
      refine tag_neq hz.1 hz.2 hz.1 hz.2 ?_
      rw [if_neg (by simp), if_neg (by simp), if_neg (by simp), if_neg (by simp)]
      exact tail
  · rw [if_neg (by simp; omega)]
    exact H (g.via q fun _ => 0) (m.via (by simp) _)

theorem okMv {a b c : Int} (ha : -9223372036854775808 ≤ a ∧ a ≤ 9223372036854775807) (hb : -9223372036854775808 ≤ b ∧ b ≤ 9223372036854775807) (hc : -9223372036854775808 ≤ c ∧ c ≤ 9223372036854775807) : ShMove.ok (a, b, c, ()) := ⟨okI ha, okI hb, okI hc, trivial⟩
def ends22 : List Int := [-9223372036854775808, -1, 0, 1, 2, 63, 64, 255, 256, 4294967295, 4294967296, 9223372036854775807]
theorem ends22_ok : ∀ e ∈ ends22, -9223372036854775808 ≤ e ∧ e ≤ 9223372036854775807 := by decide
theorem ends_at {q : GH} {se : Sl} (re : RdC 1 q 1 se (ends22.map (.int .i64))) (i : Nat) (hi : i < ends22.length) : ∃ a : Addr, (∀ K : Addr → Prop, K a → idxK se (i : Int) (sizeOfT Tryz.prog T.int) K) ∧ (∀ K : Int → Prop, K ends22[i] → loadK (.int .i64) q.h (some a) K) := by
  obtain ⟨b, o', cc, hidx⟩ := re.at_ (by simp [ends22]) (by kernel_rfl : sizeOfT Tryz.prog T.int = 1)
  have hx : (ends22.map (Value.int .i64))[i]? = some (Kd.inj (.int .i64) ends22[i]) := by simp [hi]; rfl
  exact ⟨_, fun K hK => hidx _ _ (by omega) (by simp; omega) hK, fun K hK => loadK_cells cc ends22[i] (j := i) (by simp) hx hK⟩

/-- A cover of one row of noughts, with the noughts' nonce: it is long, or not. -/
theorem cover0 (n : Nat) : (coverT true [] zero32 [List.replicate n 0]).2.1 = (if n ≤ 65500 then 0 else 3) ∧ (coverT true [] zero32 [List.replicate n 0]).2.2 = [] := by
  have h : (bodyB22 zero32 [List.replicate n (0 : Int)]).length = n + 36 := by simp [bodyB22, rowsB, runB, fourB, zero32]
  unfold coverT
  rw [h]
  by_cases hn : n ≤ 65500
  · rw [if_pos (by omega), if_pos hn]
    exact ⟨rfl, rfl⟩
  · rw [if_neg (by omega), if_neg hn]
    exact ⟨rfl, rfl⟩

def rows22 : List (List (List Int)) := [[], [[]], [[], []], [[1, 2]], [[1], [2]], [[1, 2], []], [[], [1, 2]], [[0, 0, 0, 0]], [[0]], [List.replicate 40 0]]

abbrev KC22 : List Nat := [1, 2, 3, 4, 5, 6]
theorem covers22 {q : GH} (mx : MaxC q 0) {t nonce : List Int} (okt : ShTag.ok t) (okn : ShTag.ok nonce) {v : Sl} {rows : List (List Int)} (hv : SlC q 4 (.sl (.int .u8)) v rows)
    {R : Value → Heap → Prop} (H : ∀ q' : GH, Mv [] q q' → R (.bool true) q'.h) : HC Tryz.prog F.law22_CommitCovers #[.agg (tagA t), .agg (tagA nonce), .slice v.a v.n v.c] R q.h :=
  CommitCovers_spec q.base mx.base t okt nonce okn v rows (hv.arg (Mv.refl [] _) (by simp)) fun g' m' => H (q.via g' id) (m'.via (by simp) id)
theorem bytes22 {q : GH} {c : Nat} {s : Sl} {xs : List Int} (o : OwnC T.uint8 1 q c s (xs.map byV)) (hl : xs.length ≤ 1000) (hb : ∀ x ∈ xs, isByte x) : SlC q c (.int .u8) s xs :=
  SlC.ofInts (k := .u8) o.rd o.cap (by omega) fun x hx => by
    have := hb x hx
    unfold isByte at this
    exact ⟨this.1, this.2⟩
theorem sls22_1 {q : GH} {c : Nat} {s a : Sl} {xs : List Int} (o : OwnC T.sl_uint8 1 q c s [slV a]) (ha : SlC q c (.int .u8) a xs) : SlC q c (.sl (.int .u8)) s [xs] :=
  .ofSls (sls := [a]) o.rd o.cap (by simp) rfl (all2_cons ha all2_nil)
theorem sls22_2 {q : GH} {c : Nat} {s a b : Sl} {xs ys : List Int} (o : OwnC T.sl_uint8 1 q c s [slV a, slV b]) (ha : SlC q c (.int .u8) a xs) (hb : SlC q c (.int .u8) b ys) : SlC q c (.sl (.int .u8)) s [xs, ys] :=
  .ofSls (sls := [a, b]) o.rd o.cap (by simp) rfl (all2_cons ha (all2_cons hb all2_nil))
/-- Ten lists of rows, one behind the other. -/
theorem mk22 (q : GH) {K : Sl → Heap → Prop} (H : ∀ (s : Sl) (sls : List Sl) (q' : GH), Mv [] q q' → s.n = 10 → RdC 1 q' 4 s (sls.map slV) → sls.length = 10 → (∀ (i : Nat) (sl : Sl) (xs : List (List Int)), sls[i]? = some sl → rows22[i]? = some xs → SlC q' 4 (.sl (.int .u8)) sl xs) → K s q'.h) :
    newSlK q.h 1 #[.slice none 0 0] T.sl_uint8 (fun v96 h =>
    newSlK h 2 #[.slice none 0 0, .slice none 0 0] T.sl_uint8 (fun v97 h =>
    newSlK h 2 #[.int .u8 1, .int .u8 2] T.uint8 (fun v98 h =>
    newSlK h 1 #[.slice v98.a v98.n v98.c] T.sl_uint8 (fun v99 h =>
    newSlK h 1 #[.int .u8 1] T.uint8 (fun v100 h =>
    newSlK h 1 #[.int .u8 2] T.uint8 (fun v101 h =>
    newSlK h 2 #[.slice v100.a v100.n v100.c, .slice v101.a v101.n v101.c] T.sl_uint8 (fun v102 h =>
    newSlK h 2 #[.int .u8 1, .int .u8 2] T.uint8 (fun v103 h =>
    newSlK h 2 #[.slice v103.a v103.n v103.c, .slice none 0 0] T.sl_uint8 (fun v104 h =>
    newSlK h 2 #[.int .u8 1, .int .u8 2] T.uint8 (fun v105 h =>
    newSlK h 2 #[.slice none 0 0, .slice v105.a v105.n v105.c] T.sl_uint8 (fun v106 h =>
    newSlK h 4 #[.int .u8 0, .int .u8 0, .int .u8 0, .int .u8 0] T.uint8 (fun v107 h =>
    newSlK h 1 #[.slice v107.a v107.n v107.c] T.sl_uint8 (fun v108 h =>
    newSlK h 1 #[.int .u8 0] T.uint8 (fun v109 h =>
    newSlK h 1 #[.slice v109.a v109.n v109.c] T.sl_uint8 (fun v110 h =>
    opK Tryz.prog .slice (Instr.makeSlice T.sl_uint8 (.int .i64 40) (.int .i64 40)) (fun (v111 : Sl) h =>
    newSlK h 1 #[.slice v111.a v111.n v111.c] T.sl_uint8 (fun v112 h =>
    newSlK h 10 #[.slice none 0 0, .slice v96.a v96.n v96.c, .slice v97.a v97.n v97.c, .slice v99.a v99.n v99.c, .slice v102.a v102.n v102.c, .slice v104.a v104.n v104.c, .slice v106.a v106.n v106.c, .slice v108.a v108.n v108.c, .slice v110.a v110.n v110.c, .slice v112.a v112.n v112.c] T.sl_sl_uint8 K)) h))))))))))))))) := by
  have nl : ∀ q : GH, SlC q 4 (.int .u8) ⟨none, 0, 0⟩ [] := fun q => SlC.nil _ _ _
  have b12 : ∀ x ∈ ([1, 2] : List Int), isByte x := by simp [isByte]
  have bts : ∀ xs ∈ ([[1, 2], [1], [2], [0, 0, 0, 0], [0]] : List (List Int)), ∀ x ∈ xs, isByte x := by unfold isByte; decide
  refine newSl_C q 4 rfl fun s1 q1 m1 o1 _ _ => ?_
  have M := m1
  have r1 : SlC q1 4 (.sl (.int .u8)) s1 [[]] := sls22_1 (a := ⟨none, 0, 0⟩) o1 (nl _)
  clear o1
  refine newSl_C q1 4 rfl fun s2 q2 m2 o2 _ _ => ?_
  replace r1 := r1.mv m2 (by simp)
  replace M := M.step m2 (by simp)
  have r2 : SlC q2 4 (.sl (.int .u8)) s2 [[], []] := sls22_2 (a := ⟨none, 0, 0⟩) (b := ⟨none, 0, 0⟩) o2 (nl _) (nl _)
  clear o2
  refine newSl_C q2 4 rfl fun s3 q3 m3 o3 _ _ => ?_
  replace r1 := r1.mv m3 (by simp)
  replace r2 := r2.mv m3 (by simp)
  replace M := M.step m3 (by simp)
  have r3 : SlC q3 4 (.int .u8) s3 [1, 2] := bytes22 (xs := [1, 2]) o3 (by simp) (bts _ (by simp))
  clear o3
  refine newSl_C q3 4 rfl fun s4 q4 m4 o4 _ _ => ?_
  replace r1 := r1.mv m4 (by simp)
  replace r2 := r2.mv m4 (by simp)
  replace r3 := r3.mv m4 (by simp)
  replace M := M.step m4 (by simp)
  have r4 : SlC q4 4 (.sl (.int .u8)) s4 [[1, 2]] := sls22_1 (a := s3) o4 r3
  clear o4
  refine newSl_C q4 4 rfl fun s5 q5 m5 o5 _ _ => ?_
  replace r1 := r1.mv m5 (by simp)
  replace r2 := r2.mv m5 (by simp)
  replace r4 := r4.mv m5 (by simp)
  replace M := M.step m5 (by simp)
  have r5 : SlC q5 4 (.int .u8) s5 [1] := bytes22 (xs := [1]) o5 (by simp) (bts _ (by simp))
  clear o5
  refine newSl_C q5 4 rfl fun s6 q6 m6 o6 _ _ => ?_
  replace r1 := r1.mv m6 (by simp)
  replace r2 := r2.mv m6 (by simp)
  replace r4 := r4.mv m6 (by simp)
  replace r5 := r5.mv m6 (by simp)
  replace M := M.step m6 (by simp)
  have r6 : SlC q6 4 (.int .u8) s6 [2] := bytes22 (xs := [2]) o6 (by simp) (bts _ (by simp))
  clear o6
  refine newSl_C q6 4 rfl fun s7 q7 m7 o7 _ _ => ?_
  replace r1 := r1.mv m7 (by simp)
  replace r2 := r2.mv m7 (by simp)
  replace r4 := r4.mv m7 (by simp)
  replace r5 := r5.mv m7 (by simp)
  replace r6 := r6.mv m7 (by simp)
  replace M := M.step m7 (by simp)
  have r7 : SlC q7 4 (.sl (.int .u8)) s7 [[1], [2]] := sls22_2 (a := s5) (b := s6) o7 r5 r6
  clear o7
  refine newSl_C q7 4 rfl fun s8 q8 m8 o8 _ _ => ?_
  replace r1 := r1.mv m8 (by simp)
  replace r2 := r2.mv m8 (by simp)
  replace r4 := r4.mv m8 (by simp)
  replace r7 := r7.mv m8 (by simp)
  replace M := M.step m8 (by simp)
  have r8 : SlC q8 4 (.int .u8) s8 [1, 2] := bytes22 (xs := [1, 2]) o8 (by simp) (bts _ (by simp))
  clear o8
  refine newSl_C q8 4 rfl fun s9 q9 m9 o9 _ _ => ?_
  replace r1 := r1.mv m9 (by simp)
  replace r2 := r2.mv m9 (by simp)
  replace r4 := r4.mv m9 (by simp)
  replace r7 := r7.mv m9 (by simp)
  replace r8 := r8.mv m9 (by simp)
  replace M := M.step m9 (by simp)
  have r9 : SlC q9 4 (.sl (.int .u8)) s9 [[1, 2], []] := sls22_2 (a := s8) (b := ⟨none, 0, 0⟩) o9 r8 (nl _)
  clear o9
  refine newSl_C q9 4 rfl fun s10 q10 m10 o10 _ _ => ?_
  replace r1 := r1.mv m10 (by simp)
  replace r2 := r2.mv m10 (by simp)
  replace r4 := r4.mv m10 (by simp)
  replace r7 := r7.mv m10 (by simp)
  replace r9 := r9.mv m10 (by simp)
  replace M := M.step m10 (by simp)
  have r10 : SlC q10 4 (.int .u8) s10 [1, 2] := bytes22 (xs := [1, 2]) o10 (by simp) (bts _ (by simp))
  clear o10
  refine newSl_C q10 4 rfl fun s11 q11 m11 o11 _ _ => ?_
  replace r1 := r1.mv m11 (by simp)
  replace r2 := r2.mv m11 (by simp)
  replace r4 := r4.mv m11 (by simp)
  replace r7 := r7.mv m11 (by simp)
  replace r9 := r9.mv m11 (by simp)
  replace r10 := r10.mv m11 (by simp)
  replace M := M.step m11 (by simp)
  have r11 : SlC q11 4 (.sl (.int .u8)) s11 [[], [1, 2]] := sls22_2 (a := ⟨none, 0, 0⟩) (b := s10) o11 (nl _) r10
  clear o11
  refine newSl_C q11 4 rfl fun s12 q12 m12 o12 _ _ => ?_
  replace r1 := r1.mv m12 (by simp)
  replace r2 := r2.mv m12 (by simp)
  replace r4 := r4.mv m12 (by simp)
  replace r7 := r7.mv m12 (by simp)
  replace r9 := r9.mv m12 (by simp)
  replace r11 := r11.mv m12 (by simp)
  replace M := M.step m12 (by simp)
  have r12 : SlC q12 4 (.int .u8) s12 [0, 0, 0, 0] := bytes22 (xs := [0, 0, 0, 0]) o12 (by simp) (bts _ (by simp))
  clear o12
  refine newSl_C q12 4 rfl fun s13 q13 m13 o13 _ _ => ?_
  replace r1 := r1.mv m13 (by simp)
  replace r2 := r2.mv m13 (by simp)
  replace r4 := r4.mv m13 (by simp)
  replace r7 := r7.mv m13 (by simp)
  replace r9 := r9.mv m13 (by simp)
  replace r11 := r11.mv m13 (by simp)
  replace r12 := r12.mv m13 (by simp)
  replace M := M.step m13 (by simp)
  have r13 : SlC q13 4 (.sl (.int .u8)) s13 [[0, 0, 0, 0]] := sls22_1 (a := s12) o13 r12
  clear o13
  refine newSl_C q13 4 rfl fun s14 q14 m14 o14 _ _ => ?_
  replace r1 := r1.mv m14 (by simp)
  replace r2 := r2.mv m14 (by simp)
  replace r4 := r4.mv m14 (by simp)
  replace r7 := r7.mv m14 (by simp)
  replace r9 := r9.mv m14 (by simp)
  replace r11 := r11.mv m14 (by simp)
  replace r13 := r13.mv m14 (by simp)
  replace M := M.step m14 (by simp)
  have r14 : SlC q14 4 (.int .u8) s14 [0] := bytes22 (xs := [0]) o14 (by simp) (bts _ (by simp))
  clear o14
  refine newSl_C q14 4 rfl fun s15 q15 m15 o15 _ _ => ?_
  replace r1 := r1.mv m15 (by simp)
  replace r2 := r2.mv m15 (by simp)
  replace r4 := r4.mv m15 (by simp)
  replace r7 := r7.mv m15 (by simp)
  replace r9 := r9.mv m15 (by simp)
  replace r11 := r11.mv m15 (by simp)
  replace r13 := r13.mv m15 (by simp)
  replace r14 := r14.mv m15 (by simp)
  replace M := M.step m15 (by simp)
  have r15 : SlC q15 4 (.sl (.int .u8)) s15 [[0]] := sls22_1 (a := s14) o15 r14
  clear o15
  refine make_C (e := T.uint8) (by_ := 1) (z := .int .u8 0) (l := 40) (k := 40) (by kernel_rfl) (by kernel_rfl) rfl (by omega) q15 4 (by omega) (by omega) fun s16 q16 m16 o16 _ _ _ => ?_
  rw [zerosMap22] at o16
  replace r1 := r1.mv m16 (by simp)
  replace r2 := r2.mv m16 (by simp)
  replace r4 := r4.mv m16 (by simp)
  replace r7 := r7.mv m16 (by simp)
  replace r9 := r9.mv m16 (by simp)
  replace r11 := r11.mv m16 (by simp)
  replace r13 := r13.mv m16 (by simp)
  replace r15 := r15.mv m16 (by simp)
  replace M := M.step m16 (by simp)
  have r16 : SlC q16 4 (.int .u8) s16 (List.replicate 40 0) := bytes22 o16 (by simp) (zerosByte22 _)
  clear o16
  refine newSl_C q16 4 rfl fun s17 q17 m17 o17 _ _ => ?_
  replace r1 := r1.mv m17 (by simp)
  replace r2 := r2.mv m17 (by simp)
  replace r4 := r4.mv m17 (by simp)
  replace r7 := r7.mv m17 (by simp)
  replace r9 := r9.mv m17 (by simp)
  replace r11 := r11.mv m17 (by simp)
  replace r13 := r13.mv m17 (by simp)
  replace r15 := r15.mv m17 (by simp)
  replace r16 := r16.mv m17 (by simp)
  replace M := M.step m17 (by simp)
  have r17 : SlC q17 4 (.sl (.int .u8)) s17 [List.replicate 40 0] := sls22_1 (a := s16) o17 r16
  clear o17
  refine newSl_C q17 4 rfl fun s18 q18 m18 o18 hn _ => ?_
  replace r1 := r1.mv m18 (by simp)
  replace r2 := r2.mv m18 (by simp)
  replace r4 := r4.mv m18 (by simp)
  replace r7 := r7.mv m18 (by simp)
  replace r9 := r9.mv m18 (by simp)
  replace r11 := r11.mv m18 (by simp)
  replace r13 := r13.mv m18 (by simp)
  replace r15 := r15.mv m18 (by simp)
  replace r17 := r17.mv m18 (by simp)
  refine H s18 [⟨none, 0, 0⟩, s1, s2, s4, s7, s9, s11, s13, s15, s17] q18 (M.step m18 (by simp)) hn o18.rd rfl ?_
  exact all2_cons (SlC.nil _ _ _) (all2_cons r1 (all2_cons r2 (all2_cons r4 (all2_cons r7 (all2_cons r9 (all2_cons r11 (all2_cons r13 (all2_cons r15 (all2_cons r17 all2_nil)))))))))

set_option maxHeartbeats 4000000 in
theorem CommitSmall_spec (g : GH) (mx : MaxC g 0) {R : Value → Heap → Prop} (H : ∀ g' : GH, Mv [] g g' → R (.bool true) g'.h) : HC Tryz.prog F.law22_CommitSmall #[] R g.h := by
  refine law22_CommitSmall.calls ?_
  unfold law22_CommitSmall.body
  have m := Mv.refl KC22 g.base
  have mx0 : ∀ q : GH, Mv KC22 g.base q → MaxC q 0 := fun q m => mx.base.mv m (by simp)
  refine newSl_C g.base 1 rfl fun se q1 m1 o1 hn1 hc1 => ?_
  replace m := m.step m1 (by simp)
  have re : RdC 1 q1 1 se (ends22.map (.int .i64)) := o1.rd
  clear o1
  refine loopW_rule (fun st h' => ∃ (i : Nat) (q : GH), i ≤ 12 ∧ st = (i : Int) ∧ h' = q.h ∧ Mv KC22 g.base q ∧ RdC 1 q 1 se (ends22.map (.int .i64))) (fun st => 12 - st.toNat) ⟨0, q1, by omega, rfl, rfl, m, re⟩ ?_
  clear m re m1
  rintro X _ _ ⟨i, q, hi, rfl, rfl, m, re⟩ hX
  try dsimp only
  by_cases hlt : i < 12
  · rw [if_pos (by simp; omega)]
    refine loopW_rule (fun st h' => ∃ (k : Nat) (q : GH), k ≤ 12 ∧ st = (k : Int) ∧ h' = q.h ∧ Mv KC22 g.base q ∧ RdC 1 q 1 se (ends22.map (.int .i64))) (fun st => 12 - st.toNat) ⟨0, q, by omega, rfl, rfl, m, re⟩ ?_
    clear m re
    rintro Y _ _ ⟨k, q, hk, rfl, rfl, m, re⟩ hY
    try dsimp only
    by_cases hlk : k < 12
    · rw [if_pos (by simp; omega)]
      have hiE : i < ends22.length := hlt
      have hkE : k < ends22.length := hlk
      have oki := ends22_ok _ (List.getElem_mem hiE)
      have okk := ends22_ok _ (List.getElem_mem hkE)
      have i0 : -9223372036854775808 ≤ (0 : Int) ∧ (0 : Int) ≤ 9223372036854775807 := by decide
      have i1 : -9223372036854775808 ≤ (1 : Int) ∧ (1 : Int) ≤ 9223372036854775807 := by decide
      have i5 : -9223372036854775808 ≤ (5 : Int) ∧ (5 : Int) ≤ 9223372036854775807 := by decide
      refine ⟨_, bldTg1 1, ?_⟩
      refine ⟨_, bldTg1 2, ?_⟩
      obtain ⟨a1, ia1, la1⟩ := ends_at re i hiE
      obtain ⟨a2, ia2, la2⟩ := ends_at re k hkE
      refine ia1 _ ?_
      refine ia2 _ ?_
      refine ia2 _ ?_
      refine ia1 _ ?_
      refine ⟨_, bldTg1 3, ?_⟩
      refine la1 _ ?_
      refine la2 _ ?_
      refine la2 _ ?_
      refine la1 _ ?_
      refine ⟨_, bldMvA _, ?_⟩
      clear ia1 ia2 la1 la2
      refine tells22_spec q (tg1 1) (tg1 2) (okTg1 (by simp [isByte])) (okTg1 (by simp [isByte])) _ _ _ (ends22[i], 5, 0, ()) (okMv oki i5 i0) (tg1 3) (okTg1 (by simp [isByte])) fun q2 m2 => ⟨_, rfl, ?_⟩
      replace m := m.step m2 (by simp)
      replace re := re.mv m2 (by simp)
      try dsimp only
      rw [if_neg (by simp)]
      refine ⟨_, bldTg1 1, ?_⟩
      refine ⟨_, bldTgZ, ?_⟩
      obtain ⟨a1, ia1, la1⟩ := ends_at re i hiE
      obtain ⟨a2, ia2, la2⟩ := ends_at re k hkE
      refine ia2 _ ?_
      refine ia1 _ ?_
      refine ia2 _ ?_
      refine ⟨_, bldTgZ, ?_⟩
      refine la2 _ ?_
      refine la1 _ ?_
      refine la2 _ ?_
      refine ⟨_, bldMvB _, ?_⟩
      clear ia1 ia2 la1 la2
      refine tells22_spec q2 (tg1 1) zero32 (okTg1 (by simp [isByte])) ok0 _ _ _ (1, ends22[k], 0, ()) (okMv i1 okk i0) zero32 ok0 fun q3 m3 => ⟨_, rfl, ?_⟩
      replace m := m.step m3 (by simp)
      replace re := re.mv m3 (by simp)
      try dsimp only
      rw [if_neg (by simp)]
      refine ⟨_, bldTgZ, ?_⟩
      refine ⟨_, bldTg1 4, ?_⟩
      obtain ⟨a1, ia1, la1⟩ := ends_at re i hiE
      obtain ⟨a2, ia2, la2⟩ := ends_at re k hkE
      refine ia1 _ ?_
      refine ia2 _ ?_
      refine ⟨_, bldTg31, ?_⟩
      refine la1 _ ?_
      refine la2 _ ?_
      refine ⟨_, bldMvC _, ?_⟩
      clear ia1 ia2 la1 la2
      refine tells22_spec q3 zero32 (tg1 4) ok0 (okTg1 (by simp [isByte])) _ _ _ (0, 0, ends22[k], ()) (okMv i0 i0 okk) tg31 okTg31 fun q4 m4 => ⟨_, rfl, ?_⟩
      try dsimp only
      rw [if_neg (by simp), wrapSucc (by omega)]
      exact hY _ _ ⟨k + 1, q4, by omega, rfl, rfl, m.step m4 (by simp), re.mv m4 (by simp)⟩ (by simp; omega)
    · rw [if_neg (by simp; omega), wrapSucc (by omega)]
      exact hX _ _ ⟨i + 1, q, by omega, rfl, rfl, m, re⟩ (by simp; omega)
  · rw [if_neg (by simp; omega)]
    clear hX re
    refine loopW_rule (fun st h' => ∃ (i : Nat) (q : GH), i ≤ 4 ∧ st = (i : Int) - 1 ∧ h' = q.h ∧ Mv KC22 g.base q) (fun st => (3 - st).toNat) ⟨0, q, by omega, rfl, rfl, m⟩ ?_
    clear m
    rintro X _ _ ⟨i, q, hi, rfl, rfl, m⟩ hX
    try dsimp only
    by_cases hlt : i < 4
    · rw [if_pos (by simp; omega)]
      have hw : IntKind.i64.wrap (65500 + ((i : Int) - 1)) = ((65499 + i : Nat) : Int) := by
        rw [show (65500 + ((i : Int) - 1)) = ((65499 + i : Nat) : Int) by omega]
        exact wrapI64 (by omega) (by omega)
      rw [hw]
      refine joinW_intro (fun st h' => ∃ q : GH, st = (if 65499 + i ≤ 65500 then 0 else 3) ∧ h' = q.h ∧ Mv KC22 g.base q) ?_ ?_
      · intro J hJ
        refine ⟨_, bldTgZ, ?_⟩
        obtain ⟨hc1, hc2⟩ := cover0 (65499 + i)
        obtain ⟨hc3, hc4⟩ := coverT_tag true [] zero32 [List.replicate (65499 + i) 0]
        obtain ⟨n, hn⟩ : ∃ n, n = 65499 + i := ⟨_, rfl⟩
        rw [← hn] at hc1 hc2 hc3 hc4 hJ ⊢
        have hnb : n ≤ 70000 := by omega
        clear hX hw hn
        obtain ⟨S, hS⟩ : ∃ S : Option Nat → Option Sl → Option Sl → Option Nat → GH → Prop, ∀ om ob or ot q, S om ob or ot q ↔ (Mv KC22 g.base q ∧ (∀ p, om = some p → MakC q 2 3 p true [] []) ∧ (∀ s, ob = some s → RdC 1 q 4 s ((List.replicate n (0 : Int)).map byV) ∧ s.n ≤ s.c) ∧ (∀ s, or = some s → RowsC q 4 s [List.replicate n (0 : Int)]) ∧ (∀ p, ot = some p → BlkC q 5 p (tagA zero32) T.api_Tag)) := ⟨fun om ob or ot q => _, fun _ _ _ _ _ => Iff.rfl⟩
        have sM : ∀ {q : GH} {ob or : Option Sl} {ot : Option Nat} {K : Option Addr → Heap → Prop}, S none ob or ot q → (∀ (p : Nat) (q' : GH), S (some p) ob or ot q' → K (some ⟨p, 0, none⟩) q'.h) → callK Tryz.prog .ptr F.tags_New #[.bool true, .slice none 0 0] K q.h := by
          intro q ob or ot K s h
          obtain ⟨m, f1, f2, f3, f4⟩ := (hS _ _ _ _ _).1 s
          exact makNew_spec q 2 3 true ⟨none, 0, 0⟩ [] (RdC.nil _ _ 0 _ _) (by simp) (by simp) fun p q' e x => ⟨_, rfl, h p q' ((hS _ _ _ _ _).2 ⟨m.step e (by simp), fun p hp => (by cases hp; exact x), fun s hs => ⟨(f2 s hs).1.mv e (by simp), (f2 s hs).2⟩, fun s hs => (f3 s hs).mv e (by simp), fun p hp => (f4 p hp).mv e (by simp)⟩)⟩
        have sZ : ∀ {q : GH} {om ot : Option Nat} {or : Option Sl} {K : Sl → Heap → Prop}, S om none or ot q → (∀ (s : Sl) (q' : GH), S om (some s) or ot q' → K s q'.h) → opK Tryz.prog .slice (Instr.makeSlice T.sl_uint8 (.int .i64 (n : Int)) (.int .i64 (n : Int))) K q.h := by
          intro q om ot or K s h
          obtain ⟨m, f1, f2, f3, f4⟩ := (hS _ _ _ _ _).1 s
          refine make_C (e := T.uint8) (by_ := 1) (z := .int .u8 0) (l := n) (k := n) (by kernel_rfl) (by kernel_rfl) rfl (by omega) q 4 (by omega) (by omega) fun s' q' e o hn hc _ => h s' q' ((hS _ _ _ _ _).2 ⟨m.step e (by simp), fun p hp => (f1 p hp).mv e (by simp) (by simp), fun s hs => ?_, fun s hs => (f3 s hs).mv e (by simp), fun p hp => (f4 p hp).mv e (by simp)⟩)
          cases hs
          rw [zerosMap22] at o
          exact ⟨o.rd, o.cap⟩
        have sR : ∀ {q : GH} {om ot : Option Nat} {b : Sl} {K : Sl → Heap → Prop}, S om (some b) none ot q → (∀ (s : Sl) (q' : GH), S om (some b) (some s) ot q' → K s q'.h) → newSlK q.h 1 #[.slice b.a b.n b.c] T.sl_uint8 K := by
          intro q om ot b K s h
          obtain ⟨m, f1, f2, f3, f4⟩ := (hS _ _ _ _ _).1 s
          obtain ⟨rb, hb⟩ := f2 b rfl
          refine newSl_C q 4 rfl fun s' q' e o hn hc => h s' q' ((hS _ _ _ _ _).2 ⟨m.step e (by simp), fun p hp => (f1 p hp).mv e (by simp) (by simp), fun s hs => ⟨(f2 s hs).1.mv e (by simp), (f2 s hs).2⟩, fun s hs => ?_, fun p hp => (f4 p hp).mv e (by simp)⟩)
          cases hs
          exact RowsC.one o.rd (rb.mv e (by simp)) hb
        have sT : ∀ {q : GH} {om : Option Nat} {ob or : Option Sl} {K : Option Addr → Heap → Prop}, S om ob or none q → (∀ (p : Nat) (q' : GH), S om ob or (some p) q' → K (some ⟨p, 0, none⟩) q'.h) → newK q.h (zerosOf Tryz.prog T.api_Tag) T.api_Tag K := by
          intro q om ob or K s h
          obtain ⟨m, f1, f2, f3, f4⟩ := (hS _ _ _ _ _).1 s
          rw [zTag]
          exact new_C q 5 fun p q' e b => h p q' ((hS _ _ _ _ _).2 ⟨m.step e (by simp), fun p hp => (f1 p hp).mv e (by simp) (by simp), fun s hs => ⟨(f2 s hs).1.mv e (by simp), (f2 s hs).2⟩, fun s hs => (f3 s hs).mv e (by simp), fun p hp => by cases hp; exact b⟩)
        have sC : ∀ {q : GH} {p : Nat} {b r : Sl} {ot : Option Nat} {K : Array Value × Int → Heap → Prop}, S (some p) (some b) (some r) ot q → (∀ (q' : GH), S none none none ot q' → K (tagA (coverT true [] zero32 [List.replicate n 0]).1, if n ≤ 65500 then 0 else 3) q'.h) → callK Tryz.prog (Kd.pair .agg (.int .i64)) F.commit_Cover #[.pointer (some ⟨p, 0, none⟩), .agg (tagA zero32), .slice r.a r.n r.c] K q.h := by
          intro q p b r ot K s h
          obtain ⟨m, f1, f2, f3, f4⟩ := (hS _ _ _ _ _).1 s
          refine cover_spec (by decide) (f1 p rfl) zero32 ok0 r _ (f3 r rfl) (fun xs hx => ?_) (fun xs hx => ?_) (by simp) fun q' e _ => ⟨(_, _), rfl, ?_⟩
          · simp only [List.mem_singleton] at hx; rw [hx]; exact zerosByte22 _
          · simp only [List.mem_singleton] at hx; rw [hx, List.length_replicate]; omega
          · show K (tagA _, (coverT true [] zero32 [List.replicate n 0]).2.1) q'.h
            rw [hc1]
            exact h q' ((hS _ _ _ _ _).2 ⟨m.step e (by simp), fun _ e => (by cases e), fun _ e => (by cases e), fun _ e => (by cases e), fun p hp => (f4 p hp).mv e (by simp)⟩)
        have sS : ∀ {q : GH} {p : Nat} {K : Heap → Prop}, S none none none (some p) q → (∀ (q' : GH), S none none none none q' → K q'.h) → storeAggK (sizeOfT Tryz.prog T.api_Tag) q.h (some ⟨p, 0, none⟩) (tagA (coverT true [] zero32 [List.replicate n 0]).1) K := by
          intro q p K s h
          obtain ⟨m, f1, f2, f3, f4⟩ := (hS _ _ _ _ _).1 s
          exact storeAgg_C (f4 p rfl) (by rw [szTag]; simp [hc3]) (by rw [szTag]; simp [zero32]) (fun v hv => oneBy _ v hv) fun q' e b => h q' ((hS _ _ _ _ _).2 ⟨m.step e (by simp), fun _ e => (by cases e), fun _ e => (by cases e), fun _ e => (by cases e), fun _ e => (by cases e)⟩)
        have fin : ∀ {q : GH}, S none none none none q → J (if n ≤ 65500 then 0 else 3) q.h := by
          intro q s
          obtain ⟨m, _⟩ := (hS _ _ _ _ _).1 s
          exact hJ _ _ ⟨q, rfl, rfl, m⟩
        have st : S none none none none q := (hS _ _ _ _ _).2 ⟨m, fun _ e => (by cases e), fun _ e => (by cases e), fun _ e => (by cases e), fun _ e => (by cases e)⟩
        clear hS m hJ
        generalize coverT true [] zero32 [List.replicate n 0] = cv at sC sS
        generalize (if n ≤ 65500 then (0 : Int) else 3) = er at sC fin
        repeat' (first
          | with_reducible exact fin st
          | (with_reducible refine sS st ?_; intro q' st; try dsimp only)
          | (with_reducible refine sC st ?_; intro q' st; try dsimp only)
          | (with_reducible refine sM st ?_; intro s' q' st; try dsimp only)
          | (with_reducible refine sT st ?_; intro s' q' st; try dsimp only)
          | (with_reducible refine sR st ?_; intro s' q' st; try dsimp only)
          | (with_reducible refine sZ st ?_; intro s' q' st; try dsimp only)
          | with_reducible refine And.intro ?_ ?_)
      rintro _ _ ⟨q2, rfl, rfl, m⟩
      have hx : X (IntKind.i64.wrap ((i : Int) - 1 + 1)) q2.h := by
        rw [show ((i : Int) - 1 + 1) = (((i + 1 : Nat) : Int) - 1) by omega, wrapI64 (by omega) (by omega)]
        exact hX _ _ ⟨i + 1, q2, by omega, rfl, rfl, m⟩ (by omega)
      try dsimp only
      by_cases hb : 65499 + i ≤ 65500
      · rw [if_pos hb, if_neg (by simp; omega), if_neg (by simp; omega)]
        exact hx
      · rw [if_neg hb, if_neg (by simp; omega), if_neg (by simp; omega)]
        exact hx
    · rw [if_neg (by simp; omega)]
      clear hX
      refine mk22 q fun s sls q2 m2 hs r hl all => ?_
      replace m := m.step m2 (by simp)
      refine loopW_rule (fun st h' => ∃ (i : Nat) (q : GH), i ≤ 10 ∧ st = (i : Int) ∧ h' = q.h ∧ Mv KC22 g.base q ∧ Mv [] q2 q) (fun st => 10 - st.toNat) ⟨0, q2, by omega, rfl, rfl, m, Mv.refl _ _⟩ ?_
      clear m m2
      rintro X _ _ ⟨i, q, hi, rfl, rfl, m, mq⟩ hX
      try dsimp only
      by_cases hlt : i < 10
      · rw [if_pos (by simp; omega)]
        have hir : i < rows22.length := hlt
        have hil : i < sls.length := by omega
        have hv := all i _ _ (List.getElem?_eq_getElem hil) (List.getElem?_eq_getElem hir)
        have ld : ∀ (q' : GH) (K : Sl → Prop), Mv [] q2 q' → K sls[i] → idxK s (i : Int) (sizeOfT Tryz.prog T.sl_sl_uint8) (fun a => loadK .slice q'.h (some a) K) := by
          intro q' K m' hK
          exact idxLoad_C (r.mv m' (by simp)) (by kernel_rfl) (by omega) sls[i] (by simp [hil]; rfl) hK
        generalize sls[i] = sl at hv ld
        generalize rows22[i] = xs at hv
        refine ⟨_, bldTgZ, ?_⟩
        refine ⟨_, bldTg1 _, ?_⟩
        refine ld q _ mq ?_
        refine covers22 (mx0 q m) ok0 (okTg1 (isByte_wrap _)) (hv.mv mq (by simp)) fun q3 m3 => ⟨_, rfl, ?_⟩
        replace m := m.step m3 (by simp)
        replace mq := mq.step m3 (by simp)
        try dsimp only
        rw [if_neg (by simp)]
        refine ⟨_, bldTg1 7, ?_⟩
        refine ⟨_, bldTgZ, ?_⟩
        refine ld q3 _ mq ?_
        refine covers22 (mx0 q3 m) (okTg1 (by simp [isByte])) ok0 (hv.mv mq (by simp)) fun q4 m4 => ⟨_, rfl, ?_⟩
        try dsimp only
        rw [if_neg (by simp), wrapSucc (by omega)]
        exact hX _ _ ⟨i + 1, q4, by omega, rfl, rfl, m.step m4 (by simp), mq.step m4 (by simp)⟩ (by simp; omega)
      · rw [if_neg (by simp; omega)]
        refine none22_spec q fun q3 m3 => ⟨_, rfl, ?_⟩
        replace m := m.step m3 (by simp)
        try dsimp only
        rw [if_pos rfl]
        refine awake22_spec q3 (mx0 q3 m) fun q4 m4 => ⟨true, rfl, ?_⟩
        exact H (g.via q4 fun _ => 0) ((m.step m4 (by simp)).via (by simp) _)

theorem CommitSmall_walk {h : Heap} (mx : MaxC ⟨h, fun _ => 0⟩ 0) : HC Tryz.prog F.law22_CommitSmall #[] (fun v h' => v = .bool true ∧ Ext h h') h :=
  CommitSmall_spec ⟨h, fun _ => 0⟩ mx fun g' m => ⟨rfl, m.ext (by simp)⟩

end Go.Proofs.YtafjmdeldejonaaGreat
