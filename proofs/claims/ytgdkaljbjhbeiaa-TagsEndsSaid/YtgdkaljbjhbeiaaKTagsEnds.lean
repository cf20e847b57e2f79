/-
  The statement TagsEnds.
-/
import Derived.Test.YtgdkaljbjhbeiaaKTagsTell
import Derived.Test.YtgdkaljbjhbeiaaKNone
import Derived.Test.YtgdkaljbjhbeiaaStr
set_option linter.unusedSimpArgs false
set_option linter.unusedVariables false
namespace Go.Proofs.Ytgdkaljbjhbeiaa
open Go Go.Ev

theorem no04_spec (g : GH) {R : Value → Heap → Prop} (H : ∀ g' : GH, Mv [] g g' → R (.bool true) g'.h) : HC Try.prog F.law04_none #[] R g.h := by
  refine law04_none.calls ?_
  unfold law04_none.body
  have m := Mv.refl [1, 2] g.base
  refine ⟨#[.map none, .bool false, .slice none 0 0], fun w => by kernel_rfl, ?_⟩
  refine new_C g.base 1 fun p q1 m1 b => ?_
  replace m := m.step m1 (by simp)
  refine newSl_C q1 2 rfl fun s q2 m2 o hn hc => ?_
  replace m := m.step m2 (by simp)
  have b2 := b.mv m2 (by simp)
  have r2 := o.rd
  refine loopW_rule (fun st h' => ∃ (i : Nat) (q : GH), i ≤ 2 ∧ st = (i : Int) ∧ h' = q.h ∧ Mv [1, 2] g.base q ∧ Mv [] q2 q) (fun st => 2 - st.toNat) ⟨0, q2, by omega, rfl, rfl, m, Mv.refl _ _⟩ ?_
  rintro X _ _ ⟨i, q, hi, rfl, rfl, m, mq⟩ hX
  try dsimp only
  by_cases hlt : i < 2
  · rw [if_pos (by simp; omega)]
    have two : ∃ v : Option Addr, NoC q2 1 v ∧ ([.pointer none, .pointer (some ⟨p, 0, none⟩)] : List Value)[i]? = some (Kd.ptr.inj v) := by
      have : i = 0 ∨ i = 1 := by omega
      rcases this with rfl | rfl
      · exact ⟨none, .inl rfl, rfl⟩
      · exact ⟨some ⟨p, 0, none⟩, .inr ⟨p, _, _, rfl, b2, rfl⟩, rfl⟩
    obtain ⟨v, xv, hv⟩ := two
    have ld : ∀ (q' : GH) (K : Option Addr → Prop), Mv [] q2 q' → K v → idxK s (i : Int) (sizeOfT Try.prog T.p_tags_Maker) (fun a => loadK .ptr q'.h (some a) K) := by
      intro q' K m' hK
      exact idxLoad_C (r2.mv m' (by simp)) (by kernel_rfl) (by omega) v (by simpa using hv) hK
    have zero32_tag : (List.replicate 32 (0 : Int)).length = 32 ∧ ∀ x ∈ List.replicate 32 (0 : Int), isByte x := ⟨by simp, by simp [isByte]⟩
    refine ld q _ mq ?_
    refine noSum_spec (xv.mv mq (by simp)) ⟨none, 0, 0⟩ fun q3 m3 => ⟨_, rfl, ?_⟩
    replace m := m.step m3 (by simp)
    replace mq := mq.step m3 (by simp)
    try dsimp only
    refine ⟨_, bldTag0, ?_⟩
    refine tag_neq zero32_tag.1 zero32_tag.2 zero32_tag.1 zero32_tag.2 ?_
    rw [if_neg (by simp)]
    refine ld q3 _ mq ?_
    refine noMac_spec (xv.mv mq (by simp)) ⟨none, 0, 0⟩ ⟨none, 0, 0⟩ fun q4 m4 => ⟨_, rfl, ?_⟩
    replace m := m.step m4 (by simp)
    replace mq := mq.step m4 (by simp)
    try dsimp only
    refine ⟨_, bldTag0, ?_⟩
    refine tag_neq zero32_tag.1 zero32_tag.2 zero32_tag.1 zero32_tag.2 ?_
    rw [if_neg (by simp)]
    refine ld q4 _ mq ?_
    refine noDraw_spec (xv.mv mq (by simp)) 3 fun q5 m5 => ⟨_, rfl, ?_⟩
    replace m := m.step m5 (by simp)
    replace mq := mq.step m5 (by simp)
    try dsimp only
    refine ⟨_, bldTag0, ?_⟩
    refine tag_neq zero32_tag.1 zero32_tag.2 zero32_tag.1 zero32_tag.2 ?_
    rw [if_neg (by simp)]
    refine ld q5 _ mq ?_
    refine noReal_spec (xv.mv mq (by simp)) ⟨_, rfl, ?_⟩
    try dsimp only
    rw [if_neg (by simp)]
    refine ld q5 _ mq ?_
    refine noLen_spec (xv.mv mq (by simp)) ⟨_, rfl, ?_⟩
    try dsimp only
    rw [if_neg (by simp)]
    refine ld q5 _ mq ?_
    refine ⟨_, bldTag0, ?_⟩
    refine noTold_spec (xv.mv mq (by simp)) _ fun q6 m6 => ⟨_, rfl, ?_⟩
    replace m := m.step m6 (by simp)
    replace mq := mq.step m6 (by simp)
    try dsimp only
    rw [if_neg (by simp)]
    refine ld q6 _ mq ?_
    refine noCopy_spec (xv.mv mq (by simp)) ⟨none, rfl, ?_⟩
    try dsimp only
    rw [if_neg (by simp), wrapSucc (by omega)]
    exact hX _ _ ⟨i + 1, q6, by omega, rfl, rfl, m, mq⟩ (by simp; omega)
  · rw [if_neg (by simp; omega)]
    exact H (g.via q fun _ => 0) (m.via (by simp) _)

/-! ### The marks -/
def zugS : ByteArray := ⟨#[122, 117, 103]⟩
def zugzS : ByteArray := ⟨#[122, 117, 103, 122, 119, 97, 110, 103]⟩
def bangS : ByteArray := ⟨#[33]⟩
theorem marks1 : ∀ i : Fin 9, markT (strB (zugS ++ zugzS.extract 0 i.val)) = (i.val == 8) := by decide +kernel
theorem marks2 : ∀ i : Fin 9, markT (strB (zugzS.extract i.val zugzS.size ++ bangS)) = (i.val == 0) := by decide +kernel
theorem marks3 : ∀ i : Fin 9, markT (strB (zugzS.extract 0 i.val ++ zugzS ++ zugzS.extract i.val zugzS.size)) = true := by decide +kernel
theorem sizes3 : ∀ i : Fin 9, (zugS ++ zugzS.extract 0 i.val).size ≤ 100 ∧ (zugzS.extract i.val zugzS.size ++ bangS).size ≤ 100 ∧ (zugzS.extract 0 i.val ++ zugzS ++ zugzS.extract i.val zugzS.size).size ≤ 100 := by decide +kernel
theorem markStr_spec {q : GH} {K : Bool → Heap → Prop} (mx : MaxC q 0) (s : ByteArray) (hs : s.size ≤ 100) (H : ∀ q' : GH, Mv [] q q' → K (markT (strB s)) q'.h) :
    opK Try.prog .slice (convert T.string T.sl_uint8 (.string s)) (fun (v : Sl) (h : Heap) => callK Try.prog .bool F.tags_Mark #[.slice v.a v.n v.c] K h) q.h := by
  refine convStr_C (e := T.uint8) (by kernel_rfl) (by kernel_rfl) (by kernel_rfl) 7 s fun v q1 m1 r hc => ?_
  refine tagsMark_spec (mx.mv m1 (by simp)) r hc (fun x hx => strB_byte s x hx) (by rw [strB_len]; omega) fun q2 m2 => ⟨_, rfl, ?_⟩
  exact H q2 (m1.step m2 (by simp))
theorem addStr_C (ox oy : Operand) (a b : ByteArray) (hs : a.size + b.size ≤ 1000) {h : Heap} {K : ByteArray → Prop} (H : K (a ++ b)) : quietK Try.prog .str (binSem .add T.string ox oy (.string a) (.string b)) K h := by
  refine ⟨a ++ b, fun w _ => ?_, H⟩
  have e : (binSem .add T.string ox oy (.string a) (.string b)).run Try.prog w = (Op.stringOp .add a b).run Try.prog w := by kernel_rfl
  rw [e]
  unfold Op.stringOp
  dsimp only
  have : ¬ (((a.size + b.size : Nat) : Int) > IntKind.i64.max) := by
    have : IntKind.i64.max = 9223372036854775807 := rfl
    omega
  rw [if_neg this]
  rfl

/-! ### The asks -/
theorem layAsk {g : GH} {c : Nat} {w n : Int} {key : List Int} {rows : List (List Int)} {vk vr : Sl} (hw : -9223372036854775808 ≤ w ∧ w ≤ 9223372036854775807) (hn : -9223372036854775808 ≤ n ∧ n ≤ 9223372036854775807) (hk : SlC g c (.int .u8) vk key) (hr : SlC g c (.sl (.int .u8)) vr rows) :
    LayC g c ShAsk (w, key, rows, n, ()) [.int .i64 w, slV vk, slV vr, .int .i64 n] :=
  ⟨[_], [_, _, _], rfl, ⟨rfl, hw⟩, [_], [_, _], rfl, hk, [_], [_], rfl, hr, [_], [], rfl, ⟨rfl, hn⟩, rfl⟩
theorem bldAskR (v : Sl) (w : World) : (Instr.build T.zugzwanglaw04_Ask #[(2, .slice v.a v.n v.c)]).run Try.prog w = .ok (.agg ⟨[.int .i64 0, slV ⟨none, 0, 0⟩, slV v, .int .i64 0]⟩) w := by kernel_rfl
theorem bldAskK (k v : Sl) (w : World) : (Instr.build T.zugzwanglaw04_Ask #[(0, .int .i64 1), (1, .slice k.a k.n k.c), (2, .slice v.a v.n v.c)]).run Try.prog w = .ok (.agg ⟨[.int .i64 1, slV k, slV v, .int .i64 0]⟩) w := by kernel_rfl
theorem bldAskN (n : Int) (w : World) : (Instr.build T.zugzwanglaw04_Ask #[(0, .int .i64 2), (3, .int .i64 n)]).run Try.prog w = .ok (.agg ⟨[.int .i64 2, slV ⟨none, 0, 0⟩, slV ⟨none, 0, 0⟩, .int .i64 n]⟩) w := by kernel_rfl
def Asks (q : GH) (s : Sl) (xl : List AskT) : Prop := ∃ css : List (List Value), OwnC T.zugzwanglaw04_Ask 4 q 2 s css.flatten ∧ css.length = xl.length ∧ s.n = xl.length ∧ ∀ (i : Nat) (x : AskT) (k : List Value), xl[i]? = some x → css[i]? = some k → LayC q 1 ShAsk x k
theorem Asks.mv {K : List Nat} {q q' : GH} {s : Sl} {xl : List AskT} (x : Asks q s xl) (m : Mv K q q') (h1 : 1 ∉ K) (h2 : 2 ∉ K) : Asks q' s xl := by
  obtain ⟨css, o, a, b, l⟩ := x
  exact ⟨css, o.mv m h2, a, b, fun i x k p r => LayC.mv m h1 (l i x k p r)⟩
theorem Asks.nil (q : GH) : Asks q ⟨none, 0, 0⟩ [] := ⟨[], OwnC.nil _ _ _ _, rfl, rfl, by simp⟩
theorem Asks.slc {q : GH} {s : Sl} {xl : List AskT} (x : Asks q s xl) (hl : xl.length ≤ 1000) : SlC q.base 0 ShAsk s xl := by
  obtain ⟨css, o, a, b, l⟩ := x
  exact SlC.of css o.cap b.symm (by omega) (by omega) o.base.rd fun i x k p r => LayC.arg (Mv.refl [] _) (by simp) (l i x k p r)
theorem putAsks {q : GH} {s : Sl} {xl ys : List AskT} (x : Asks q s xl) {n : Nat} (ks : List (List Value)) (hn : ys.length = n) (hk : ks.length = n) (h0 : 0 < n) (hle : n ≤ 100) (hx : xl.length ≤ 1000) (l : ∀ (i : Nat) (x : AskT) (k : List Value), ys[i]? = some x → ks[i]? = some k → LayC q 1 ShAsk x k)
    {parts : Array (Nat × Value)} (hp : parts.toList = ((ks.map fun k => Value.agg ⟨k⟩).zipIdx).map fun x => (x.2, x.1)) {K : Sl → Heap → Prop} (H : ∀ (s' : Sl) (q' : GH), Mv [2] q q' → Asks q' s' (xl ++ ys) → K s' q'.h) :
    opK Try.prog .slice (Instr.buildSlice T.sl_zugzwanglaw04_Ask n parts) (fun (v : Sl) (h : Heap) =>
      opK Try.prog .slice (Builtin.append_ #[T.sl_zugzwanglaw04_Ask, T.sl_zugzwanglaw04_Ask] T.sl_zugzwanglaw04_Ask #[(.slice s.a s.n s.c), (.slice v.a v.n v.c)]) K h) q.h := by
  have lk : ∀ k ∈ ks, k.length = 4 := by
    intro k hk'
    obtain ⟨i, hi, rfl⟩ := List.mem_iff_getElem.1 hk'
    exact LayC.length (l i (ys[i]'(by omega)) _ (List.getElem?_eq_getElem _) (List.getElem?_eq_getElem _))
  refine buildRows_C (e := T.zugzwanglaw04_Ask) (sz := 4) (z := .agg (zerosOf Try.prog T.zugzwanglaw04_Ask)) (by kernel_rfl) (by kernel_rfl) (by decide) (ks.map fun k => Value.agg ⟨k⟩) hp (fun v hv => ?_) (by simpa using hk) h0 (by omega) q 3 fun t q1 m1 o1 hn1 hc1 => ?_
  · obtain ⟨k, hk', rfl⟩ := List.mem_map.1 hv
    simpa [Value.cells] using lk k hk'
  have efl : (ks.map fun k => Value.agg ⟨k⟩).flatMap (fun v => v.cells.toList) = ks.flatten := by
    rw [List.flatMap_map]
    simp [Value.cells, List.flatMap_def]
  rw [efl] at o1
  obtain ⟨css, o, a, b, lx⟩ := x
  have one : ∀ v ∈ ks.flatten, v.oneCell' = true := by
    intro v hv
    obtain ⟨k, hk', hvk⟩ := List.mem_flatten.1 hv
    obtain ⟨i, hi, rfl⟩ := List.mem_iff_getElem.1 hk'
    obtain ⟨vk, vr, e, _⟩ := LayC.ask (l i (ys[i]'(by omega)) _ (List.getElem?_eq_getElem _) (List.getElem?_eq_getElem _))
    rw [e] at hvk
    simp only [List.mem_cons, List.mem_nil_iff, or_false] at hvk
    rcases hvk with rfl | rfl | rfl | rfl <;> rfl
  refine append_C (e := T.zugzwanglaw04_Ask) (e2 := T.zugzwanglaw04_Ask) (sz := 4) (by_ := 64) (z := .agg (zerosOf Try.prog T.zugzwanglaw04_Ask)) (by kernel_rfl) (by kernel_rfl) (by kernel_rfl) (by kernel_rfl) (by decide) (o.mv m1 (by simp)) o1.rd.rd one (by omega) fun s' q2 m2 o2 hs2 _ => ?_
  refine H s' q2 (m1.then m2 (by simp)) ⟨css ++ ks, by rw [List.flatten_append]; exact o2, by simp; omega, by rw [hs2, hn1, b]; simp; omega, fun i x k h1 h2 => ?_⟩
  by_cases hi : i < xl.length
  · rw [List.getElem?_append_left hi] at h1
    rw [List.getElem?_append_left (by omega)] at h2
    exact LayC.mv m2 (by simp) (LayC.mv m1 (by simp) (lx i x k h1 h2))
  · rw [List.getElem?_append_right (by omega)] at h1
    rw [List.getElem?_append_right (by omega), a] at h2
    exact LayC.mv m2 (by simp) (LayC.mv m1 (by simp) (l _ x k h1 h2))

def b04 : List Int := [97, 98, 99]
def fourA (i : Nat) : List AskT := [(0, [], [b04.take i, b04.drop i], 0, ()), (1, b04.take i, [b04.drop i], 0, ()), (1, b04, [b04.take i, []], 0, ()), (2, [], [], (i : Int), ())]
def twoA (e : Int) : List AskT := [(2, [], [], e, ()), (0, [], [[IntKind.u8.wrap e]], 0, ())]
def endsI : List Int := [-9223372036854775808, -1, 0, 255, 256, 9223372036854775807]
def allA : List AskT := (List.range 4).flatMap fourA ++ endsI.flatMap twoA
def nearT : List (List Int) := [List.replicate 32 0, numT 0, numT 5, numT ((28 : Nat) : Int), numT (-1), numT 4611686018427387904]
theorem fourA_len (n : Nat) : ((List.range n).flatMap fourA).length = 4 * n := by
  induction n with
  | zero => rfl
  | succ n ih => rw [List.range_succ, List.flatMap_append, List.length_append, ih]; simp [fourA]; omega
theorem sls4 {q : GH} {s a b : Sl} {xs ys : List Int} (o : OwnC T.sl_uint8 1 q 1 s [slV a, slV b]) (ha : SlC q 1 (.int .u8) a xs) (hb : SlC q 1 (.int .u8) b ys) : SlC q 1 (.sl (.int .u8)) s [xs, ys] :=
  .ofSls (sls := [a, b]) o.rd o.cap (by simp) rfl (all2_cons ha (all2_cons hb all2_nil))
theorem sls1 {q : GH} {s a : Sl} {xs : List Int} (o : OwnC T.sl_uint8 1 q 1 s [slV a]) (ha : SlC q 1 (.int .u8) a xs) : SlC q 1 (.sl (.int .u8)) s [xs] :=
  .ofSls (sls := [a]) o.rd o.cap (by simp) rfl (all2_cons ha all2_nil)
theorem tell04 {q : GH} (mx : MaxC q 0) (real : Bool) {sd : Sl} {seed : List Int} (hsd : SlC q.base 0 (.int .u8) sd seed) {l : Sl} {xl : List AskT} (hl : SlC q.base 0 ShAsk l xl) {t : List Int} (okt : ShTag.ok t)
    {R : Value → Heap → Prop} (H : ∀ q' : GH, Mv [] q q' → R (.bool true) q'.h) : HC Try.prog F.law04_TagsTell #[.bool real, .slice sd.a sd.n sd.c, .slice l.a l.n l.c, .agg (tagA t)] R q.h :=
  TagsTell_spec q.base mx.base real sd seed hsd l xl hl t okt fun g' m' => H (q.via g' id) (m'.via (by simp) id)

set_option maxHeartbeats 4000000 in
set_option maxRecDepth 20000 in
theorem TagsEnds_spec (g : GH) (mx : MaxC g 0) {R : Value → Heap → Prop} (H : ∀ g' : GH, Mv [] g g' → R (.bool true) g'.h) : HC Try.prog F.law04_TagsEnds #[] R g.h := by
  refine law04_TagsEnds.calls ?_
  unfold law04_TagsEnds.body
  have m := Mv.refl [1, 2, 3, 4, 5, 6, 7] g.base
  have mx0 : ∀ q : GH, Mv [1, 2, 3, 4, 5, 6, 7] g.base q → MaxC q 0 := fun q m => mx.base.mv m (by simp)
  refine newSl_C g.base 1 rfl fun sb q1 m1 o1 hn1 hc1 => ?_
  replace m := m.step m1 (by simp)
  refine convRd (e := T.uint8) (by kernel_rfl) (by kernel_rfl) o1 (by simp) fun q2 m2 rb k2 => ?_
  replace m := m.step m2 (by simp)
  have hb : SlC q2 1 (.int .u8) sb b04 := SlC.ofInts (k := .u8) (xs := b04) rb (by omega) (by decide) (by decide)
  clear rb k2 o1
  refine loopW_rule (fun st h' => ∃ (i : Nat) (s : Sl) (q : GH), i ≤ 4 ∧ st = (s, (i : Int)) ∧ h' = q.h ∧ Mv [1, 2, 3, 4, 5, 6, 7] g.base q ∧ SlC q 1 (.int .u8) sb b04 ∧ Asks q s ((List.range i).flatMap fourA)) (fun st => 4 - st.2.toNat)
    ⟨0, ⟨none, 0, 0⟩, q2, by omega, rfl, rfl, m, hb, Asks.nil _⟩ ?_
  clear hb m m1 m2
  rintro X _ _ ⟨i, s, q, hi, rfl, rfl, m, hb, x⟩ hX
  try dsimp only
  by_cases hlt : i < 4
  · rw [if_pos (by simp; omega)]
    have hbn : sb.n = 3 := hb.len
    have hbc := hb.cap
    have hpl : sb.plain := (SlC.ints hb).1.rd.plain (by simp [b04])
    have ht : SlC q 1 (.int .u8) ⟨sb.a, i, sb.c⟩ (b04.take i) := by
      refine SlC.ofInts ((SlC.ints hb).1.take (n := i) (k := sb.c) (by simp [b04]; omega) |> fun r => by rw [← List.map_take] at r; exact r) (by show i ≤ sb.c; omega) (by simp [b04]; omega) fun x hx => (SlC.ints hb).2 x (List.mem_of_mem_take hx)
    have hd := SlC.drop (sz := sizeOfT Try.prog T.uint8) hb (l := i) (by kernel_rfl) (by decide) (by simp [b04]; omega)
    refine slice_to hpl rfl (by omega) ?_
    refine slice_from rfl (by omega) hbc ?_
    refine slice_to hpl rfl (by omega) ?_
    refine slice_from rfl (by omega) hbc ?_
    refine slice_to hpl rfl (by omega) ?_
    refine ⟨_, bldAskN (i : Int), ?_⟩
    generalize (⟨sb.a, i, sb.c⟩ : Sl) = st at ht ⊢
    generalize (⟨if sb.c = i then sb.a else sb.a.map (·.add (i * sizeOfT Try.prog T.uint8)), sb.n - i, sb.c - i⟩ : Sl) = sd at hd ⊢
    obtain ⟨S, hS⟩ : ∃ S : Option Sl → Option Sl → Option Sl → GH → Prop, ∀ oa ob oc q, S oa ob oc q ↔ (Mv [1, 2, 3, 4, 5, 6, 7] g.base q ∧ SlC q 1 (.int .u8) sb b04 ∧ Asks q s ((List.range i).flatMap fourA) ∧ SlC q 1 (.int .u8) st (b04.take i) ∧ SlC q 1 (.int .u8) sd (b04.drop i) ∧
      (∀ a, oa = some a → SlC q 1 (.sl (.int .u8)) a [b04.take i, b04.drop i]) ∧ (∀ a, ob = some a → SlC q 1 (.sl (.int .u8)) a [b04.drop i]) ∧ (∀ a, oc = some a → SlC q 1 (.sl (.int .u8)) a [b04.take i, []])) := ⟨fun oa ob oc q => _, fun _ _ _ _ => Iff.rfl⟩
    have sA : ∀ {q : GH} {ob oc : Option Sl} {K : Array Value → Heap → Prop}, S none ob oc q → (∀ (a : Sl) (q' : GH), S (some a) ob oc q' → K ⟨[.int .i64 0, slV ⟨none, 0, 0⟩, slV a, .int .i64 0]⟩ q'.h) →
        newSlK q.h 2 #[.slice st.a st.n st.c, .slice sd.a sd.n sd.c] T.sl_uint8 (fun v h => buildK Try.prog (Instr.build T.zugzwanglaw04_Ask #[(2, .slice v.a v.n v.c)]) (fun a => K a h)) := by
      intro q ob oc K s0 h
      obtain ⟨m, hb, x, t, d, f1, f2, f3⟩ := (hS _ _ _ _).1 s0
      refine newSl_C q 1 rfl fun a q' e o hn hc => ⟨_, bldAskR a, h a q' ((hS _ _ _ _).2 ⟨m.step e (by simp), hb.mv e (by simp), x.mv e (by simp) (by simp), t.mv e (by simp), d.mv e (by simp), fun a' h' => ?_, fun a' h' => (f2 a' h').mv e (by simp), fun a' h' => (f3 a' h').mv e (by simp)⟩)⟩
      cases h'
      exact sls4 o (t.mv e (by simp)) (d.mv e (by simp))
    have sB : ∀ {q : GH} {oa oc : Option Sl} {K : Array Value → Heap → Prop}, S oa none oc q → (∀ (a : Sl) (q' : GH), S oa (some a) oc q' → K ⟨[.int .i64 1, slV st, slV a, .int .i64 0]⟩ q'.h) →
        newSlK q.h 1 #[.slice sd.a sd.n sd.c] T.sl_uint8 (fun v h => buildK Try.prog (Instr.build T.zugzwanglaw04_Ask #[(0, .int .i64 1), (1, .slice st.a st.n st.c), (2, .slice v.a v.n v.c)]) (fun a => K a h)) := by
      intro q oa oc K s0 h
      obtain ⟨m, hb, x, t, d, f1, f2, f3⟩ := (hS _ _ _ _).1 s0
      refine newSl_C q 1 rfl fun a q' e o hn hc => ⟨_, bldAskK st a, h a q' ((hS _ _ _ _).2 ⟨m.step e (by simp), hb.mv e (by simp), x.mv e (by simp) (by simp), t.mv e (by simp), d.mv e (by simp), fun a' h' => (f1 a' h').mv e (by simp), fun a' h' => ?_, fun a' h' => (f3 a' h').mv e (by simp)⟩)⟩
      cases h'
      exact sls1 o (d.mv e (by simp))
    have sC : ∀ {q : GH} {oa ob : Option Sl} {K : Array Value → Heap → Prop}, S oa ob none q → (∀ (a : Sl) (q' : GH), S oa ob (some a) q' → K ⟨[.int .i64 1, slV sb, slV a, .int .i64 0]⟩ q'.h) →
        newSlK q.h 2 #[.slice st.a st.n st.c, .slice none 0 0] T.sl_uint8 (fun v h => buildK Try.prog (Instr.build T.zugzwanglaw04_Ask #[(0, .int .i64 1), (1, .slice sb.a sb.n sb.c), (2, .slice v.a v.n v.c)]) (fun a => K a h)) := by
      intro q oa ob K s0 h
      obtain ⟨m, hb, x, t, d, f1, f2, f3⟩ := (hS _ _ _ _).1 s0
      refine newSl_C q 1 rfl fun a q' e o hn hc => ⟨_, bldAskK sb a, h a q' ((hS _ _ _ _).2 ⟨m.step e (by simp), hb.mv e (by simp), x.mv e (by simp) (by simp), t.mv e (by simp), d.mv e (by simp), fun a' h' => (f1 a' h').mv e (by simp), fun a' h' => (f2 a' h').mv e (by simp), fun a' h' => ?_⟩)⟩
      cases h'
      exact sls4 (b := ⟨none, 0, 0⟩) o (t.mv e (by simp)) (SlC.nil _ _ _)
    have fin : ∀ {q : GH} {a b c : Sl}, S (some a) (some b) (some c) q →
        opK Try.prog .slice (Instr.buildSlice T.sl_zugzwanglaw04_Ask 4 #[(0, .agg ⟨[.int .i64 0, slV ⟨none, 0, 0⟩, slV a, .int .i64 0]⟩), (1, .agg ⟨[.int .i64 1, slV st, slV b, .int .i64 0]⟩), (2, .agg ⟨[.int .i64 1, slV sb, slV c, .int .i64 0]⟩), (3, .agg ⟨[.int .i64 2, slV ⟨none, 0, 0⟩, slV ⟨none, 0, 0⟩, .int .i64 (i : Int)]⟩)]) (fun v h =>
        opK Try.prog .slice (Builtin.append_ #[T.sl_zugzwanglaw04_Ask, T.sl_zugzwanglaw04_Ask] T.sl_zugzwanglaw04_Ask #[.slice s.a s.n s.c, .slice v.a v.n v.c]) (fun v h =>
        X (v, IntKind.i64.wrap ((i : Int) + 1)) h) h) q.h := by
      intro q a b c s0
      obtain ⟨m, hb, x, t, d, f1, f2, f3⟩ := (hS _ _ _ _).1 s0
      have i0 : -9223372036854775808 ≤ (0 : Int) ∧ (0 : Int) ≤ 9223372036854775807 := by decide
      have i1 : -9223372036854775808 ≤ (1 : Int) ∧ (1 : Int) ≤ 9223372036854775807 := by decide
      have i2 : -9223372036854775808 ≤ (2 : Int) ∧ (2 : Int) ≤ 9223372036854775807 := by decide
      refine putAsks (ys := fourA i) x [[.int .i64 0, slV ⟨none, 0, 0⟩, slV a, .int .i64 0], [.int .i64 1, slV st, slV b, .int .i64 0], [.int .i64 1, slV sb, slV c, .int .i64 0], [.int .i64 2, slV ⟨none, 0, 0⟩, slV ⟨none, 0, 0⟩, .int .i64 (i : Int)]] rfl rfl (by simp [fourA]) (by simp [fourA]) (by rw [fourA_len]; omega)
        (all2_cons (layAsk i0 i0 (SlC.nil _ _ _) (f1 a rfl)) (all2_cons (layAsk i1 i0 t (f2 b rfl)) (all2_cons (layAsk i1 i0 hb (f3 c rfl)) (all2_cons (layAsk i2 (by omega) (SlC.nil _ _ _) (SlC.nil _ _ _)) all2_nil)))) rfl fun s' q' e x' => ?_
      rw [wrapSucc (by omega)]
      exact hX _ _ ⟨i + 1, s', q', by omega, rfl, rfl, m.step e (by simp), hb.mv e (by simp), by rw [List.range_succ, List.flatMap_append]; simpa using x'⟩ (by simp; omega)
    have st0 : S none none none q := (hS _ _ _ _).2 ⟨m, hb, x, ht, hd, fun _ h => (by cases h), fun _ h => (by cases h), fun _ h => (by cases h)⟩
    clear hS m hb x ht hd
    repeat' (first
      | with_reducible exact fin st0
      | (with_reducible refine sA st0 ?_; intro a q' st0; try dsimp only)
      | (with_reducible refine sB st0 ?_; intro a q' st0; try dsimp only)
      | (with_reducible refine sC st0 ?_; intro a q' st0; try dsimp only)
      | with_reducible refine And.intro ?_ ?_)
  · rw [if_neg (by simp; omega)]
    have : i = 4 := by omega
    subst this
    refine newSl_C q 6 rfl fun se q3 m3 oe hne hce => ?_
    replace m := m.step m3 (by simp)
    replace hb := hb.mv m3 (by simp)
    replace x := x.mv m3 (by simp) (by simp)
    have re : RdC 1 q3 6 se (endsI.map (.int .i64)) := oe.rd
    try dsimp only
    refine loopW_rule (fun st h' => ∃ (i : Nat) (s : Sl) (q : GH), i ≤ 6 ∧ st = (s, (i : Int)) ∧ h' = q.h ∧ Mv [1, 2, 3, 4, 5, 6, 7] g.base q ∧ SlC q 1 (.int .u8) sb b04 ∧ RdC 1 q 6 se (endsI.map (.int .i64)) ∧ Asks q s ((List.range 4).flatMap fourA ++ (endsI.take i).flatMap twoA)) (fun st => 6 - st.2.toNat)
      ⟨0, s, q3, by omega, rfl, rfl, m, hb, re, by simpa using x⟩ ?_
    clear hb m m3 re oe x hX q3
    rintro Y _ _ ⟨i, s, q, hi, rfl, rfl, m, hb, re, x⟩ hY
    have hlenE : endsI.length = 6 := rfl
    have lenA : ((List.range 4).flatMap fourA ++ (endsI.take i).flatMap twoA).length = 16 + 2 * i := by
      rw [List.length_append, fourA_len]
      have : ∀ l : List Int, (l.flatMap twoA).length = 2 * l.length := by
        intro l
        induction l with
        | nil => rfl
        | cons e l ih => rw [List.flatMap_cons, List.length_append, ih]; simp [twoA]; omega
      rw [this, List.length_take]
      omega
    try dsimp only
    by_cases hlt : i < 6
    · rw [if_pos (by simp; omega)]
      have hiE : i < endsI.length := by omega
      obtain ⟨b, o, cc, hidx⟩ := re.at_ (by simp [endsI]) (by kernel_rfl : sizeOfT Try.prog T.int = 1)
      have hxe : (endsI.map (Value.int .i64))[i]? = some (Kd.inj (.int .i64) endsI[i]) := by simp [hiE]; rfl
      have hbe : ∀ e ∈ endsI, -9223372036854775808 ≤ e ∧ e ≤ 9223372036854775807 := by decide
      have hbi := hbe _ (List.getElem_mem hiE)
      refine hidx _ _ (by omega) (by simp [hlenE]; omega) ?_
      refine hidx _ _ (by omega) (by simp [hlenE]; omega) ?_
      refine loadK_cells cc endsI[i] (j := i) (by simp) hxe ?_
      refine ⟨_, bldAskN endsI[i], ?_⟩
      refine loadK_cells cc endsI[i] (j := i) (by simp) hxe ?_
      refine newSl_C q 1 rfl fun s1 q1 m1 o1 hn1 hc1 => ?_
      have r1 : SlC q1 1 (.int .u8) s1 [IntKind.u8.wrap endsI[i]] := SlC.ofInts (k := .u8) (xs := [IntKind.u8.wrap endsI[i]]) o1.rd o1.cap (by simp) (fun y hy => by
        simp only [List.mem_singleton] at hy
        rw [hy]
        have := isByte_wrap endsI[i]
        unfold isByte at this
        show (0 : Int) ≤ _ ∧ _ ≤ (255 : Int)
        omega)
      refine newSl_C q1 1 rfl fun s2 q2 m2 o2 hn2 hc2 => ?_
      have mm := m1.step m2 (L := []) (by simp)
      replace m := m.step mm (by simp)
      replace hb := hb.mv mm (by simp)
      replace re := re.mv mm (by simp)
      replace x := x.mv mm (by simp) (by simp)
      refine ⟨_, bldAskR s2, ?_⟩
      have i0 : -9223372036854775808 ≤ (0 : Int) ∧ (0 : Int) ≤ 9223372036854775807 := by decide
      have i2 : -9223372036854775808 ≤ (2 : Int) ∧ (2 : Int) ≤ 9223372036854775807 := by decide
      refine putAsks (ys := twoA endsI[i]) x [[.int .i64 2, slV ⟨none, 0, 0⟩, slV ⟨none, 0, 0⟩, .int .i64 endsI[i]], [.int .i64 0, slV ⟨none, 0, 0⟩, slV s2, .int .i64 0]] rfl rfl (by simp [twoA]) (by simp [twoA]) (by rw [lenA]; omega)
        (all2_cons (layAsk i2 hbi (SlC.nil _ _ _) (SlC.nil _ _ _)) (all2_cons (layAsk i0 i0 (SlC.nil _ _ _) (sls1 o2 (r1.mv m2 (by simp)))) all2_nil)) rfl fun s' q' e x' => ?_
      rw [wrapSucc (by omega)]
      refine hY _ _ ⟨i + 1, s', q', by omega, rfl, rfl, m.step e (by simp), hb.mv e (by simp), re.mv e (by simp), ?_⟩ (by simp; omega)
      rw [List.take_succ_eq_append_getElem hiE, List.flatMap_append, ← List.append_assoc]
      simpa using x'
    · rw [if_neg (by simp; omega)]
      have : i = 6 := by omega
      subst this
      clear hY re
      have x : Asks q s allA := x
      have lenAll : allA.length = 28 := lenA
      have hsn : s.n = 28 := by obtain ⟨_, _, _, h, _⟩ := x; rw [h, lenAll]
      clear lenA
      refine ⟨_, bldTag0, ?_⟩
      refine refNumber_spec q 0 fun q1 m1 => ⟨_, rfl, ?_⟩
      refine refNumber_spec q1 5 fun q2 m2 => ⟨_, rfl, ?_⟩
      try dsimp only
      refine refNumber_spec q2 (s.n : Int) fun q3 m3 => ⟨_, rfl, ?_⟩
      refine refNumber_spec q3 (-1) fun q4 m4 => ⟨_, rfl, ?_⟩
      refine refNumber_spec q4 4611686018427387904 fun q5 m5 => ⟨_, rfl, ?_⟩
      have mm := (((m1.step m2 (L := []) (by simp)).step m3 (by simp)).step m4 (by simp)).step m5 (by simp)
      replace m := m.step mm (by simp)
      replace hb := hb.mv mm (by simp)
      replace x := x.mv mm (by simp) (by simp)
      clear mm m1 m2 m3 m4 m5
      have okN : ∀ t ∈ nearT, ShTag.ok t := by
        intro t ht
        simp only [nearT, List.mem_cons, List.mem_nil_iff, or_false] at ht
        rcases ht with rfl | rfl | rfl | rfl | rfl | rfl
        · exact ok0
        all_goals exact okTag (numT_length _) (numT_byte _)
      refine buildRows_C (e := T.api_Tag) (sz := ShTag.size) (z := .agg (zerosOf Try.prog T.api_Tag)) (by kernel_rfl) (by kernel_rfl) (by decide) (nearT.map fun t => Value.agg (tagA t)) (by rw [hsn]; rfl) (fun v hv => ?_) rfl (by decide) (by decide) q5 4 fun sn q6 m6 o6 hn6 hc6 => ?_
      · obtain ⟨t, ht, rfl⟩ := List.mem_map.1 hv
        show (tagA t).size = 32
        simpa using (okTagB (okN t ht)).1
      have o6' : OwnF T.api_Tag ShTag q6 4 sn nearT := ⟨by
        refine o6.cast ?_
        rw [List.flatMap_map]
        exact congrArg (fun f => nearT.flatMap f) (funext fun t => by rw [encTag]; rfl), okN, hn6⟩
      replace m := m.step m6 (by simp)
      replace hb := hb.mv m6 (by simp)
      replace x := x.mv m6 (by simp) (by simp)
      have rn : SlC q6 4 ShTag sn nearT := o6'.slc rfl (by decide)
      clear o6 o6'
      refine loopW_rule (fun st h' => ∃ (i : Nat) (q : GH), i ≤ 6 ∧ st = (i : Int) ∧ h' = q.h ∧ Mv [1, 2, 3, 4, 5, 6, 7] g.base q ∧ SlC q 1 (.int .u8) sb b04 ∧ SlC q 4 ShTag sn nearT ∧ Asks q s allA) (fun st => 6 - st.toNat) ⟨0, q6, by omega, rfl, rfl, m, hb, rn, x⟩ ?_
      have hsn6 : sn.n = 6 := hn6
      have ez : (⟨#[122, 117, 103, 122, 119, 97, 110, 103]⟩ : ByteArray) = zugzS := rfl
      have eu : (⟨#[122, 117, 103]⟩ : ByteArray) = zugS := rfl
      have eb : (⟨#[33]⟩ : ByteArray) = bangS := rfl
      rw [ez, eu, eb]
      clear m hb rn x m6
      rintro Z _ _ ⟨i, q, hi, rfl, rfl, m, hb, rn, x⟩ hZ
      try dsimp only
      by_cases hlt : i < 6
      · rw [if_pos (by simp [hsn6]; omega)]
        have hiN : i < nearT.length := hlt
        have okt := okN _ (List.getElem_mem hiN)
        have htb := okTagB okt
        have te : (⟨ShTag.enc nearT[i]⟩ : Array Value) = tagA nearT[i] := by rw [encTag]
        have ld : ∀ (q' : GH) (K : Array Value → Prop), SlC q' 4 ShTag sn nearT → K (tagA nearT[i]) → idxK sn (i : Int) (sizeOfT Try.prog T.api_Tag) (fun a => loadAggK (sizeOfT Try.prog T.api_Tag) q'.h (some a) K) := by
          intro q' K rn hK
          refine rn.idxF rfl szF_Tag (by decide) hiN fun b o hcs ok hel => ?_
          refine loadF hcs szF_Tag (by decide) hel ?_
          rw [te]
          exact hK
        refine ld q _ rn ?_
        rw [zTag]
        refine newStore_C q 5 (by rw [szTag]; simp [htb.1]) (by rw [szTag]; simp) (fun v hv => oneBy _ v hv) fun pt q1 m1 bt => ?_
        replace m := m.step m1 (by simp)
        replace hb := hb.mv m1 (by simp)
        replace rn := rn.mv m1 (by simp)
        replace x := x.mv m1 (by simp) (by simp)
        rw [idxArrK_some (by decide) (by decide)]
        refine store_C bt (by rw [show sizeOfT Try.prog T.uint8 = 1 from by kernel_rfl]; simp [htb.1]) rfl fun q2 m2 bt => ?_
        replace m := m.step m2 (by simp)
        replace hb := hb.mv m2 (by simp)
        replace rn := rn.mv m2 (by simp)
        replace x := x.mv m2 (by simp) (by simp)
        have hset : (tagA nearT[i]).setIfInBounds (0 + (31 : Int).toNat * sizeOfT Try.prog T.uint8) (.int .u8 1) = tagA (nearT[i].set 31 1) := by
          rw [show 0 + (31 : Int).toNat * sizeOfT Try.prog T.uint8 = 31 from by kernel_rfl]
          simp [tagA, List.map_set, byV]
        rw [hset] at bt
        have htb2 : (nearT[i].set 31 1).length = 32 ∧ ∀ z ∈ nearT[i].set 31 1, isByte z := ⟨by simp [htb.1], fun z hz => by
          rcases List.mem_or_eq_of_mem_set hz with h | h
          · exact htb.2 z h
          · rw [h]; unfold isByte; omega⟩
        have okt2 := okTag htb2.1 htb2.2
        refine ld q2 _ rn ?_
        refine tell04 (mx0 q2 m) false (hb.arg (Mv.refl [] _) (by simp)) (x.slc (by omega)) okt fun q3 m3 => ⟨_, rfl, ?_⟩
        replace m := m.step m3 (by simp)
        replace hb := hb.mv m3 (by simp)
        replace rn := rn.mv m3 (by simp)
        replace x := x.mv m3 (by simp) (by simp)
        replace bt := bt.mv m3 (by simp)
        try dsimp only
        rw [if_neg (by simp)]
        refine ld q3 _ rn ?_
        refine tell04 (mx0 q3 m) true (hb.arg (Mv.refl [] _) (by simp)) (x.slc (by omega)) okt fun q4 m4 => ⟨_, rfl, ?_⟩
        replace m := m.step m4 (by simp)
        replace hb := hb.mv m4 (by simp)
        replace rn := rn.mv m4 (by simp)
        replace x := x.mv m4 (by simp) (by simp)
        replace bt := bt.mv m4 (by simp)
        try dsimp only
        rw [if_neg (by simp)]
        have okt2' := okt2
        generalize nearT[i].set 31 1 = t2 at htb2 okt2 bt okt2'
        refine loadAgg_whole bt (tagA_size htb2.1) ?_
        refine tell04 (sd := ⟨none, 0, 0⟩) (mx0 q4 m) false (SlC.nil _ _ _) (x.slc (by omega)) okt2 fun q5 m5 => ⟨_, rfl, ?_⟩
        replace m := m.step m5 (by simp)
        replace hb := hb.mv m5 (by simp)
        replace rn := rn.mv m5 (by simp)
        replace x := x.mv m5 (by simp) (by simp)
        replace bt := bt.mv m5 (by simp)
        try dsimp only
        rw [if_neg (by simp)]
        have xs := x.slc (by omega)
        refine slice_from rfl (by omega) xs.cap ?_
        refine loadAgg_whole bt (tagA_size htb2.1) ?_
        refine tell04 (sd := ⟨none, 0, 0⟩) (mx0 q5 m) true (SlC.nil _ _ _) (SlC.drop (sz := sizeOfT Try.prog T.zugzwanglaw04_Ask) xs (by kernel_rfl) (by decide) (by omega)) okt2 fun q6 m6 => ⟨_, rfl, ?_⟩
        replace m := m.step m6 (by simp)
        try dsimp only
        rw [if_neg (by simp), wrapSucc (by omega)]
        exact hZ _ _ ⟨i + 1, q6, by omega, rfl, rfl, m, hb.mv m6 (by simp), rn.mv m6 (by simp), x.mv m6 (by simp) (by simp)⟩ (by simp; omega)
      · rw [if_neg (by simp [hsn6]; omega)]
        clear hZ rn hb x
        refine loopW_rule (fun st h' => ∃ (i : Nat) (q : GH), i ≤ 9 ∧ st = (i : Int) ∧ h' = q.h ∧ Mv [1, 2, 3, 4, 5, 6, 7] g.base q) (fun st => 9 - st.toNat) ⟨0, q, by omega, rfl, rfl, m⟩ ?_
        clear m
        rintro X _ _ ⟨i, q, hi, rfl, rfl, m⟩ hX
        try dsimp only
        by_cases hlt : i ≤ 8
        · rw [if_pos (by simp; omega)]
          have k1 : markT (strB (zugS ++ zugzS.extract 0 i)) = (i == 8) := marks1 ⟨i, by omega⟩
          have k2 : markT (strB (zugzS.extract i zugzS.size ++ bangS)) = (i == 0) := marks2 ⟨i, by omega⟩
          have k3 : markT (strB (zugzS.extract 0 i ++ zugzS ++ zugzS.extract i zugzS.size)) = true := marks3 ⟨i, by omega⟩
          have z3 : (zugS ++ zugzS.extract 0 i).size ≤ 100 ∧ (zugzS.extract i zugzS.size ++ bangS).size ≤ 100 ∧ (zugzS.extract 0 i ++ zugzS ++ zugzS.extract i zugzS.size).size ≤ 100 := sizes3 ⟨i, by omega⟩
          have hz : zugzS.size = 8 := rfl
          have iz : i ≤ zugzS.size := by omega
          have z1 := z3.1
          have z2 := z3.2.1
          have z4 := z3.2.2
          rw [ByteArray.size_append] at z1 z2 z4
          have z5 := z4
          rw [ByteArray.size_append] at z5
          refine strTo_C (by kernel_rfl) iz ?_
          refine addStr_C _ _ _ _ (by omega) ?_
          refine markStr_spec (mx0 q m) _ z3.1 fun q1 m1 => ?_
          replace m := m.step m1 (by simp)
          rw [k1, if_neg (by
            have : ((i : Int) == 8) = (i == 8) := by rw [Bool.eq_iff_iff]; simp; omega
            rw [this]; simp)]
          refine strFrom_C (by kernel_rfl) iz ?_
          refine addStr_C _ _ _ _ (by omega) ?_
          refine markStr_spec (mx0 q1 m) _ z3.2.1 fun q2 m2 => ?_
          replace m := m.step m2 (by simp)
          rw [k2, if_neg (by
            have : ((i : Int) == 0) = (i == 0) := by rw [Bool.eq_iff_iff]; simp
            rw [this]; simp)]
          have fin : opK Try.prog .slice (convert T.string T.sl_uint8 (.string (zugzS.extract 0 i ++ zugzS ++ zugzS.extract i zugzS.size))) (fun v h => callK Try.prog .bool F.tags_Mark #[.slice v.a v.n v.c] (fun v h =>
              if (!v) = true then R (.bool false) h else X (IntKind.i64.wrap ((i : Int) + 1)) h) h) q2.h := by
            refine markStr_spec (mx0 q2 m) _ z3.2.2 fun q3 m3 => ?_
            rw [k3, if_neg (by simp), wrapSucc (by omega)]
            exact hX _ _ ⟨i + 1, q3, by omega, rfl, rfl, m.step m3 (by simp)⟩ (by simp; omega)
          refine ⟨?_, ?_⟩
          · refine strTo_C (by kernel_rfl) iz ?_
            refine ⟨?_, ?_⟩
            · refine addStr_C _ _ _ _ (by omega) ?_
              refine strFrom_C (by kernel_rfl) iz ?_
              refine addStr_C _ _ _ _ (by rw [ByteArray.size_append]; omega) ?_
              exact fin
            · refine strFrom_C (by kernel_rfl) iz ?_
              refine addStr_C _ _ _ _ (by omega) ?_
              refine addStr_C _ _ _ _ (by rw [ByteArray.size_append]; omega) ?_
              exact fin
          · refine strFrom_C (by kernel_rfl) iz ?_
            refine strTo_C (by kernel_rfl) iz ?_
            refine addStr_C _ _ _ _ (by omega) ?_
            refine addStr_C _ _ _ _ (by rw [ByteArray.size_append]; omega) ?_
            exact fin
        · rw [if_neg (by simp; omega)]
          refine tagsMark_spec (mx0 q m) (a := ⟨none, 0, 0⟩) (xs := []) (RdC.nil _ _ 0 _ _) (Nat.le_refl _) (by simp) (by simp) fun q1 m1 => ⟨_, rfl, ?_⟩
          replace m := m.step m1 (by simp)
          rw [show markT [] = false from by decide +kernel]
          try dsimp only
          rw [if_pos (by rfl)]
          refine no04_spec q1 fun q2 m2 => ⟨_, rfl, ?_⟩
          replace m := m.step m2 (by simp)
          try dsimp only
          rw [if_pos rfl]
          refine awake04_spec q2 fun q3 m3 => ⟨_, rfl, ?_⟩
          exact H (g.via q3 fun _ => 0) ((m.step m3 (by simp)).via (by simp) _)

theorem TagsEnds_walk {h : Heap} (mx : MaxC ⟨h, fun _ => 0⟩ 0) : HC Try.prog F.law04_TagsEnds #[] (fun v h' => v = .bool true ∧ Ext h h') h :=
  TagsEnds_spec ⟨h, fun _ => 0⟩ mx fun g' m => ⟨rfl, m.ext (by simp)⟩

end Go.Proofs.Ytgdkaljbjhbeiaa
