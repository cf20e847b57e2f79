/-
  The document's maker, real or a table.
-/
import Derived.Test.YtgdkaljbjhbeiaaKTells
import Derived.Test.YtgdkaljbjhbeiaaKMark
import Derived.Test.YtgdkaljbjhbeiaaKFlat
import Derived.Test.YtgdkaljbjhbeiaaKRef03
import Derived.Test.YtgdkaljbjhbeiaaKRef04
set_option linter.unusedSimpArgs false
set_option linter.unusedVariables false
namespace Go.Proofs.Ytgdkaljbjhbeiaa
open Go Go.Ev

abbrev ShRT : Sh := .pair (.int .i64) (.pair .str (.pair .str (.pair (.int .i64) .unit)))
theorem szRT : sizeOfT Try.prog T.zugzwangref04_Thing = 4 := by kernel_rfl
theorem szF_RT : sizeOfT Try.prog T.zugzwangref04_Thing = (ShRT).size := by kernel_rfl
theorem eqF_RT {x y : (ShRT).T} {ox oy : Operand} (hx : (ShRT).ok x) (hy : (ShRT).ok y) {K : Bool → Prop} (H : ∀ r : Bool, (r = true ↔ x = y) → K r) : eqK Try.prog (binSem .eql T.zugzwangref04_Thing ox oy (.agg ⟨(ShRT).enc x⟩) (.agg ⟨(ShRT).enc y⟩)) K :=
  eqK_flat (P := Try.prog) ShRT (t := T.zugzwangref04_Thing) (m := 10) (by decide) rfl (by kernel_rfl) (by kernel_rfl) (by kernel_rfl) (by kernel_rfl) (by kernel_rfl) hx hy H
theorem appendRTs_C {g : GH} {c d : Nat} {v w : Sl} {xs ys : List (ShRT).T} (hs : OwnF T.zugzwangref04_Thing ShRT g c v xs) (hx : SlC g d ShRT w ys) (hlen : v.n + w.n ≤ 1000000000) {K : Sl → Heap → Prop}
    (hK : ∀ (v' : Sl) (g' : GH), Mv [c] g g' → OwnF T.zugzwangref04_Thing ShRT g' c v' (xs ++ ys) → K v' g'.h) :
    opK Try.prog .slice (Builtin.append_ #[T.sl_zugzwangref04_Thing, T.sl_zugzwangref04_Thing] T.sl_zugzwangref04_Thing #[.slice v.a v.n v.c, .slice w.a w.n w.c]) K g.h :=
  appendF_C (e := T.zugzwangref04_Thing) (e2 := T.zugzwangref04_Thing) (by_ := 48) (z := .agg (zerosOf Try.prog T.zugzwangref04_Thing)) rfl (by kernel_rfl) (by kernel_rfl) (by kernel_rfl) (by kernel_rfl) (by omega) hs hx hlen hK
theorem mkRT_C (g : GH) (c : Nat) {x : (ShRT).T} (ok : (ShRT).ok x) {K : Sl → Heap → Prop} (H : ∀ (s : Sl) (g' : GH), Mv [] g g' → OwnF T.zugzwangref04_Thing ShRT g' c s [x] → s.c = 1 → K s g'.h) : opK Try.prog .slice (Instr.buildSlice T.sl_zugzwangref04_Thing 1 #[(0, .agg ⟨(ShRT).enc x⟩)]) K g.h :=
  buildRows_C (e := T.zugzwangref04_Thing) (sz := (ShRT).size) (z := .agg (zerosOf Try.prog T.zugzwangref04_Thing)) (by kernel_rfl) (by kernel_rfl) (by decide) [.agg ⟨(ShRT).enc x⟩] rfl (by
    intro v hv
    simp only [List.mem_singleton] at hv
    subst hv
    have := Sh.enc_length (s := ShRT) rfl ok
    simpa [Value.cells] using this) rfl (by simp) (by show 1 * (ShRT).size ≤ 16777216; decide) g c fun s g' m o hn hc =>
    H s g' m ⟨by simpa [Value.cells] using o, fun y hy => by simp only [List.mem_singleton] at hy; subst hy; exact ok, by simpa using hn⟩ (by simpa using hc)

/-- The document's maker in memory. -/
def MnC (g : GH) (c k p : Nat) (real : Bool) (ss : Sl) (asked : List ThingT) : Prop := ∃ sa : Sl, BlkC g c p #[.bool real, slV ss, slV sa] T.zugzwangref04_Maker ∧ OwnF T.zugzwangref04_Thing ShRT g k sa asked
theorem MnC.mv {K : List Nat} {g g' : GH} {c k p : Nat} {real : Bool} {ss : Sl} {asked : List ThingT} (x : MnC g c k p real ss asked) (m : Mv K g g') (h1 : c ∉ K) (h2 : k ∉ K) : MnC g' c k p real ss asked := by
  obtain ⟨sa, b, o⟩ := x
  exact ⟨sa, b.mv m h1, o.mv m h2⟩
theorem MnC.re {K : List Nat} {g q : GH} {c k p : Nat} {real : Bool} {ss : Sl} {asked : List ThingT} (x : MnC q c k p real ss asked) (m : Mv K g q) {φ : Nat → Nat} (h1 : φ c = c ∨ Fresh g c) (h2 : φ k = k ∨ Fresh g k) : MnC (g.via q φ) (φ c) (φ k) p real ss asked := by
  obtain ⟨sa, b, o⟩ := x
  exact ⟨sa, b.re m h1, o.re m h2⟩

theorem idxIn_first {α : Type} [DecidableEq α] {y : α} : ∀ {xs : List α} {i : Nat}, (∀ j, j < i → xs[j]? ≠ some y) → xs[i]? = some y → idxIn y xs = some i
  | [], i, _, h => by simp at h
  | x :: xs, 0, _, h => by
    simp at h
    simp [idxIn, h]
  | x :: xs, i + 1, hn, h => by
    have h0 := hn 0 (by omega)
    simp at h0
    have ih := idxIn_first (y := y) (xs := xs) (i := i) (fun j hj => by simpa using hn (j + 1) (by omega)) (by simpa using h)
    simp only [idxIn, if_neg (fun e : y = x => h0 e.symm), ih, Option.map_some]
theorem idxIn_no {α : Type} [DecidableEq α] {y : α} : ∀ {xs : List α}, (∀ j, j < xs.length → xs[j]? ≠ some y) → idxIn y xs = none
  | [], _ => by simp [idxIn]
  | x :: xs, hn => by
    have h0 := hn 0 (by simp)
    simp at h0
    have ih := idxIn_no (y := y) (xs := xs) fun j hj => by simpa using hn (j + 1) (by simp; omega)
    simp only [idxIn, if_neg (fun e : y = x => h0 e.symm), ih, Option.map_none]

theorem lenRT {t : ThingT} (h : ShRT.ok t) : (ShRT.enc t).length = 4 := Sh.enc_length (s := ShRT) rfl h

set_option maxHeartbeats 1000000 in
theorem refAsk_spec {g : GH} {c k p : Nat} (hck : ¬ c = k) {real : Bool} {ss : Sl} {asked : List ThingT} (x : MnC g c k p real ss asked) {t : ThingT} (ok : ShRT.ok t) (hl : asked.length ≤ 100000) {R : Value → Heap → Prop}
    (H : ∀ g' : GH, Mv [c, k] g g' → MnC g' c k p real ss (askT asked t).2 → R (.agg (tagA (numT (askT asked t).1))) g'.h) : HC Try.prog F.ref04_Maker_ask #[.pointer (some ⟨p, 0, none⟩), .agg ⟨ShRT.enc t⟩] R g.h := by
  refine ref04_Maker_ask.calls ?_
  unfold ref04_Maker_ask.body
  obtain ⟨y, hy, hyn⟩ := fresh_exists g [c, k]
  obtain ⟨y2, hy2, hyn2⟩ := fresh_exists g [c, k, y]
  obtain ⟨y3, hy3, hyn3⟩ := fresh_exists g [c, k, y, y2]
  simp only [List.mem_cons, List.mem_nil_iff, or_false, not_or] at hyn hyn2 hyn3
  have m := Mv.refl [c, k, y, y2, y3] g
  refine new_C g y fun px q1 m1 bx => ?_
  replace m := m.step m1 (by simp)
  replace x := x.mv m1 (by simp) (by simp)
  rw [zTag]
  refine new_C q1 y2 fun pt q2 m2 bt => ?_
  replace m := m.step m2 (by simp)
  replace x := x.mv m2 (by simp) (by simp)
  replace bx := bx.mv m2 (by simp)
  obtain ⟨sa, b, o⟩ := x
  have hn := o.len
  have hre : ∀ j ∈ [c, k, y, y2, y3], j ∈ [c, k] ∨ Fresh g j := by
    intro j hj
    simp only [List.mem_cons, List.mem_nil_iff, or_false] at hj
    rcases hj with rfl | rfl | rfl | rfl | rfl
    · exact .inl (by simp)
    · exact .inl (by simp)
    · exact .inr hy
    · exact .inr hy2
    · exact .inr hy3
  have fin : ∀ (q : GH) (n : Nat) (A : List ThingT), askT asked t = (n, A) → Mv [c, k, y, y2, y3] g q → MnC q c k p real ss A → R (.agg (tagA (numT (n : Int)))) q.h := by
    intro q n A e mq xq
    have := H (g.via q id) (mq.re id hre) (by rw [e]; exact xq.re (φ := id) mq (.inl rfl) (.inl rfl))
    rw [e] at this
    exact this
  refine loopW_rule (fun st h' => ∃ i : Nat, i ≤ asked.length ∧ st = (i : Int) ∧ q2.h = h' ∧ ∀ j, j < i → asked[j]? ≠ some t) (fun st => asked.length - st.toNat) ⟨0, by omega, rfl, rfl, by simp⟩ ?_
  rintro X _ _ ⟨i, hi, rfl, rfl, hno⟩ hX
  simp only [derefK_some, fldK_some]
  rw [loadK_C b]
  refine ⟨sa, rfl, ?_⟩
  by_cases hlt : i < asked.length
  · rw [if_pos (by simp; omega)]
    rw [loadK_C b]
    refine ⟨sa, rfl, ?_⟩
    refine (o.slc rfl (by omega)).idxF rfl szF_RT (by decide) hlt fun b1 o1 c1 ok1 l1 => loadF c1 szF_RT (by decide) l1 ?_
    refine loadAgg_whole bx (by rw [szRT, List.size_toArray, lenRT ok]) ?_
    refine eqF_RT ok1 ok fun r hr => ?_
    have hx : asked[i]? = some asked[i] := List.getElem?_eq_getElem hlt
    by_cases he : asked[i] = t
    · rw [if_pos (hr.2 he)]
      rw [he] at hx
      have hq := idxIn_first hno hx
      refine refNumber_spec q2 i fun q3 m3 => ⟨_, rfl, ?_⟩
      refine result_C (n := 32) szTag dTag (bt.mv m3 (by simp)) (by simp) (by simp [numT_length]) (fun v hv => oneBy _ v hv) fun q4 m4 => ?_
      refine fin q4 i asked (askT_there hq) ((m.step m3 (by simp)).step m4 (by simp)) ⟨sa, (b.mv m3 (by simp)).mv m4 (by simp [Ne.symm hyn2.1]), (o.mv m3 (by simp)).mv m4 (by simp [Ne.symm hyn2.2.1])⟩
    · rw [if_neg (fun h => he (hr.1 h)), wrapSucc (by omega)]
      refine hX _ _ ⟨i + 1, by omega, rfl, rfl, fun j hj => ?_⟩ (by simp; omega)
      by_cases e : j = i
      · subst e
        rw [hx]
        intro h
        exact he (Option.some.inj h)
      · exact hno j (by omega)
  · rw [if_neg (by simp; omega)]
    have hi' : i = asked.length := by omega
    subst hi'
    have hq := idxIn_no hno
    rw [loadK_C b]
    refine ⟨sa, rfl, ?_⟩
    refine loadAgg_whole bx (by rw [szRT, List.size_toArray, lenRT ok]) ?_
    refine mkRT_C q2 y3 ok fun s3 q3 m3 o3 _ => ?_
    have hl3 := o3.len
    refine appendRTs_C (o.mv m3 (by simp)) (o3.slc rfl (by simp)) (by simp at hl3; omega) fun s4 q4 m4 o4 => ?_
    refine store_C ((b.mv m3 (by simp)).mv m4 (by simp [hck])) (by simp) rfl fun q5 m5 b5 => ?_
    have b5' : BlkC q5 c p #[.bool real, slV ss, slV s4] T.zugzwangref04_Maker := b5
    rw [loadK_C b5']
    refine ⟨s4, rfl, ?_⟩
    have hl4 := o4.len
    simp only [List.length_append, List.length_cons, List.length_nil] at hl4
    rw [show IntKind.i64.wrap ((s4.n : Int) - 1) = (asked.length : Int) from by rw [wrapI64 (by omega) (by omega)]; omega]
    refine refNumber_spec q5 _ fun q6 m6 => ⟨_, rfl, ?_⟩
    refine result_C (n := 32) szTag dTag ((((bt.mv m3 (by simp)).mv m4 (by simp [hyn2.2.1])).mv m5 (by simp [hyn2.1])).mv m6 (by simp)) (by simp) (by simp [numT_length]) (fun v hv => oneBy _ v hv) fun q7 m7 => ?_
    refine fin q7 asked.length _ (by unfold askT; rw [hq]) (((((m.step m3 (by simp)).step m4 (by simp)).step m5 (by simp)).step m6 (by simp)).step m7 (by simp)) ⟨s4, (b5'.mv m6 (by simp)).mv m7 (by simp [Ne.symm hyn2.1]), ((o4.mv m5 (by simp [Ne.symm hck])).mv m6 (by simp)).mv m7 (by simp [Ne.symm hyn2.2.1])⟩

theorem refTold_spec {g : GH} {c k p : Nat} {real : Bool} {ss : Sl} {asked : List ThingT} (x : MnC g c k p real ss asked) (hl : asked.length ≤ 1000) (t : List Int) (ht : t.length = 32) (hb : ∀ x ∈ t, isByte x) {R : Value → Heap → Prop}
    (H : ∀ g' : GH, Mv [] g g' → R (.bool (toldT asked t)) g'.h) : HC Try.prog F.ref04_Maker_Told #[.pointer (some ⟨p, 0, none⟩), .agg (tagA t)] R g.h := by
  refine ref04_Maker_Told.calls ?_
  unfold ref04_Maker_Told.body
  have m := Mv.refl [1] g.base
  refine new_C g.base 1 fun pt q1 m1 bt => ?_
  replace m := m.step m1 (by simp)
  obtain ⟨sa, b, o⟩ := x
  have hn := o.len
  have b0 := b.base.mv m1 (by simp)
  have fin : ∀ (q : GH) (r : Bool), Mv [1] g.base q → toldT asked t = r → R (.bool r) q.h := fun q r mq e => by
    have := H (g.via q fun _ => 0) (mq.via (by simp) _)
    rw [e] at this
    exact this
  refine loopW_rule (fun st h' => ∃ (i : Nat) (q : GH), i ≤ asked.length ∧ st = (i : Int) ∧ h' = q.h ∧ Mv [1] g.base q ∧ BlkC q 1 pt (tagA t) T.api_Tag ∧ BlkC q 0 p #[.bool real, slV ss, slV sa] T.zugzwangref04_Maker ∧ ∀ j : Nat, j < i → ¬ numT (j : Int) = t) (fun st => asked.length - st.toNat) ⟨0, q1, by omega, rfl, rfl, m, bt, b0, by simp⟩ ?_
  clear m m1 bt b0
  rintro X _ _ ⟨i, q, hi, rfl, rfl, m, bt, b0, hno⟩ hX
  simp only [derefK_some, fldK_some]
  rw [loadK_C b0]
  refine ⟨sa, rfl, ?_⟩
  by_cases hlt : i < asked.length
  · rw [if_pos (by simp; omega)]
    refine loadAgg_whole bt (tagA_size ht) ?_
    refine refNumber_spec q i fun q2 m2 => ⟨_, rfl, ?_⟩
    replace bt := bt.mv m2 (by simp)
    replace m := m.step m2 (by simp)
    refine ⟨stillAgg_whole bt (tagA_size ht), ?_⟩
    refine tag_eq (numT_length _) (numT_byte _) ht hb ?_
    by_cases he : numT (i : Int) = t
    · rw [if_pos (decide_eq_true he)]
      refine fin q2 true m ?_
      rw [← he, toldT_num (by omega)]
      exact decide_eq_true hlt
    · rw [if_neg (by simpa using he), wrapSucc (by omega)]
      refine hX _ _ ⟨i + 1, q2, by omega, rfl, rfl, m, bt, b0.mv m2 (by simp), fun j hj => ?_⟩ (by simp; omega)
      by_cases e : j = i
      · subst e; exact he
      · exact hno j (by omega)
  · rw [if_neg (by simp; omega)]
    refine fin q false m ?_
    cases hq : toldT asked t with
    | false => rfl
    | true =>
      unfold toldT at hq
      simp only [Bool.and_eq_true, decide_eq_true_eq] at hq
      exact absurd (by rw [show ((toldN t).toNat : Int) = toldN t from by omega]; exact hq.2) (hno (toldN t).toNat (by omega))

theorem refMark_spec {g : GH} {c : Nat} {a : Sl} {xs : List Int} (ra : RdC 1 g c a (xs.map byV)) (hc : a.n ≤ a.c) (hx : ∀ x ∈ xs, isByte x) (hl : xs.length ≤ 1000000000) {R : Value → Heap → Prop} (H : R (.bool (markT xs)) g.h) :
    HC Try.prog F.ref04_Mark #[.slice a.a a.n a.c] R g.h := by
  refine ref04_Mark.calls (b0 := a) ?_
  unfold ref04_Mark.body
  have hn := ra.len
  rw [List.length_map] at hn
  refine loopW_rule (fun st h' => ∃ i : Nat, i ≤ xs.length ∧ st = (i : Int) ∧ g.h = h' ∧ ∀ j, j < i → ¬ (j + 8 ≤ xs.length ∧ (xs.drop j).take 8 = zugB)) (fun st => xs.length - st.toNat) ⟨0, by omega, rfl, rfl, by simp⟩ ?_
  rintro X _ _ ⟨i, hi, rfl, rfl, hno⟩ hX
  rw [show IntKind.i64.wrap ((i : Int) + 8) = ((i + 8 : Nat) : Int) from wrapI64 (by omega) (by omega)]
  by_cases hlt : i + 8 ≤ xs.length
  · rw [if_pos (by simp; omega)]
    refine slice_mid rfl rfl (by omega) (by omega) ?_
    have r := ra.mid (l := i) (h := i + 8) (sz := sizeOfT Try.prog T.uint8) zU8 (by omega) (by simp; omega) hc
    rw [Nat.add_sub_cancel_left] at r ⊢
    have r' : RdC 1 g c ⟨if a.c = i then a.a else a.a.map (·.add (i * sizeOfT Try.prog T.uint8)), 8, a.c - i⟩ (((xs.drop i).take 8).map byV) := by simpa [List.map_take, List.map_drop] using r
    refine toStr_C (e := T.uint8) (by kernel_rfl) (by kernel_rfl) (by kernel_rfl) r' ?_
    have hz : ((⟨#[122, 117, 103, 122, 119, 97, 110, 103]⟩ : ByteArray)).toList = Lib.bytesOf zugB := by rw [Lib.toList_data]; rfl
    have hs : ∀ ys : List Int, (strOf ys).toList = Lib.bytesOf ys := fun ys => by rw [Lib.toList_data]; unfold strOf; rw [strOf_data]; simp [Lib.bytesOf]
    rw [hz, hs]
    by_cases he : (xs.drop i).take 8 = zugB
    · rw [if_pos (by rw [he]; simp)]
      have : markT xs = true := (markT_iff hx).2 ⟨i, hlt, he⟩
      rw [this] at H
      exact H
    · rw [if_neg (fun h => he (bytesOf_inj (fun x h => hx x (List.mem_of_mem_drop (List.mem_of_mem_take h))) zugB_byte (beq_iff_eq.1 h))), wrapSucc (by omega)]
      refine hX _ _ ⟨i + 1, by omega, rfl, rfl, fun j hj => ?_⟩ (by simp; omega)
      by_cases e : j = i
      · subst e
        exact fun h => he h.2
      · exact hno j (by omega)
  · rw [if_neg (by simp; omega)]
    have : markT xs = false := by
      cases hm : markT xs with
      | false => rfl
      | true =>
        obtain ⟨j, h1, h2⟩ := (markT_iff hx).1 hm
        exact absurd ⟨h1, h2⟩ (hno j (by omega))
    rw [this] at H
    exact H

/-! ### What it tells -/

def rS (b : List Int) : ThingT := (0, ByteArray.empty, strOf b, 0, ())
def rM (k b : List Int) : ThingT := (1, strOf k, strOf b, 0, ())
def rD (n : Int) : ThingT := (2, ByteArray.empty, ByteArray.empty, n, ())
theorem okRS {b : List Int} (h : b.length ≤ 100000000) : ShRT.ok (rS b) := by
  refine ⟨by show IntKind.i64.min ≤ (0 : Int) ∧ (0 : Int) ≤ IntKind.i64.max; decide, (okS h).2⟩
theorem okRM {k b : List Int} (hk : k.length ≤ 100000000) (h : b.length ≤ 100000000) : ShRT.ok (rM k b) := by
  refine ⟨by show IntKind.i64.min ≤ (1 : Int) ∧ (1 : Int) ≤ IntKind.i64.max; decide, (okM hk h).2⟩
theorem okRD {n : Int} (h : -9223372036854775808 ≤ n ∧ n ≤ 9223372036854775807) : ShRT.ok (rD n) := by
  refine ⟨by show IntKind.i64.min ≤ (2 : Int) ∧ (2 : Int) ≤ IntKind.i64.max; decide, (okD h).2⟩

section
variable {g : GH} {c k p : Nat} {real : Bool} {ss : Sl} {asked : List ThingT}

theorem refTail {q : GH} {y t : Nat} (hck : ¬ c = k) (hy : Fresh g y) (hyc : ¬ y = c) (hyk : ¬ y = k) (m : Mv [c, k, y] g q) (x : MnC q c k p real ss asked) (bt : BlkC q y t (Array.replicate 32 (.int .u8 0)) T.api_Tag) (hl : asked.length ≤ 100000) {z : ThingT} (ok : ShRT.ok z) {R : Value → Heap → Prop}
    (H : ∀ g' : GH, Mv [c, k] g g' → MnC g' c k p real ss (askT asked z).2 → R (.agg (tagA (numT (askT asked z).1))) g'.h) :
    callK Try.prog .agg F.ref04_Maker_ask #[(.pointer (some ⟨p, 0, none⟩)), (.agg ⟨ShRT.enc z⟩)] (fun (v_16 : Array Value) (h : Heap) =>
    storeAggK (sizeOfT Try.prog T.api_Tag) h (some ⟨t, 0, none⟩) v_16 (fun (h : Heap) =>
    quietK Try.prog .agg (Instr.loadAt T.api_Tag (.pointer (some ⟨t, 0, none⟩))) (fun (r_17 : Array Value) =>
    R (.agg r_17) h) h)) q.h := by
  refine refAsk_spec hck x ok hl fun q1 m1 x1 => ⟨_, rfl, ?_⟩
  replace m := m.step m1 (by simp)
  replace bt := bt.mv m1 (by simp [hyc, hyk])
  refine result_C (n := 32) szTag dTag bt (by simp) (by simp [numT_length]) (fun v hv => oneBy _ v hv) fun q2 m2 => ?_
  replace m := m.step m2 (by simp)
  have hre : ∀ j ∈ [c, k, y], j ∈ [c, k] ∨ Fresh g j := by
    intro j hj
    simp only [List.mem_cons, List.mem_nil_iff, or_false] at hj
    rcases hj with rfl | rfl | rfl
    · exact .inl (by simp)
    · exact .inl (by simp)
    · exact .inr hy
  exact H (g.via q2 id) (m.re id hre) ((x1.mv m2 (by simp [Ne.symm hyc]) (by simp [Ne.symm hyk])).re (φ := id) m (.inl rfl) (.inl rfl))

theorem realTail {q : GH} {y t : Nat} (hy : Fresh g y) (m : Mv [y] g q) (bt : BlkC q y t (Array.replicate 32 (.int .u8 0)) T.api_Tag) {u : List Int} (hu : u.length = 32) {R : Value → Heap → Prop} (H : ∀ g' : GH, Mv [] g g' → R (.agg (tagA u)) g'.h) :
    storeAggK (sizeOfT Try.prog T.api_Tag) q.h (some ⟨t, 0, none⟩) (tagA u) (fun (h : Heap) =>
    quietK Try.prog .agg (Instr.loadAt T.api_Tag (.pointer (some ⟨t, 0, none⟩))) (fun (r_17 : Array Value) =>
    R (.agg r_17) h) h) := by
  refine result_C (n := 32) szTag dTag bt (by simp) (by simp [hu]) (fun v hv => oneBy _ v hv) fun q2 m2 => ?_
  replace m := m.step m2 (by simp)
  refine H (g.via q2 id) (m.re id fun j hj => ?_)
  simp only [List.mem_cons, List.mem_nil_iff, or_false] at hj
  exact .inr (by rw [hj]; exact hy)

theorem refSum2_spec {d : Nat} (hck : ¬ c = k) (x : MnC g c k p real ss asked) (hl : asked.length ≤ 100000) (v : Sl) (bs : List Int) (r : RdC 1 g d v (bs.map byV)) (hb : ∀ x ∈ bs, isByte x) (hlb : bs.length ≤ 70000000) {R : Value → Heap → Prop}
    (H1 : real = true → ∀ g' : GH, Mv [] g g' → R (.agg (tagA (shaB bs))) g'.h)
    (H2 : real = false → ∀ g' : GH, Mv [c, k] g g' → MnC g' c k p real ss (askT asked (rS bs)).2 → R (.agg (tagA (numT (askT asked (rS bs)).1))) g'.h) : HC Try.prog F.ref04_Maker_Sum #[.pointer (some ⟨p, 0, none⟩), .slice v.a v.n v.c] R g.h := by
  refine ref04_Maker_Sum.calls (b1 := v) ?_
  unfold ref04_Maker_Sum.body
  obtain ⟨y, hy, hyn⟩ := fresh_exists g [c, k, d]
  simp only [List.mem_cons, List.mem_nil_iff, or_false, not_or] at hyn
  rw [zTag]
  refine new_C g y fun t q1 m1 b1 => ?_
  have x1 := x.mv m1 (by simp) (by simp)
  have r1 := r.mv m1 (by simp)
  obtain ⟨sa, b, o⟩ := x1
  simp only [derefK_some, fldK_some]
  rw [loadK_C b]
  refine ⟨real, rfl, ?_⟩
  by_cases hr : real = true
  · rw [if_pos hr]
    refine refOf_spec q1 v bs r1 (by omega) hb fun q2 m2 => ⟨_, rfl, ?_⟩
    exact realTail hy ((m1.step m2 (by simp)).mono (by simp)) (b1.mv m2 (by simp)) (shaB_length _) (H1 hr)
  · rw [if_neg hr]
    refine toStr_C (e := T.uint8) (by kernel_rfl) (by kernel_rfl) (by kernel_rfl) r1 ?_
    refine ⟨⟨ShRT.enc (rS bs)⟩, fun w => by kernel_rfl, ?_⟩
    exact refTail hck hy hyn.1 hyn.2.1 (m1.mono (by simp)) ⟨sa, b, o⟩ b1 hl (okRS (by omega)) (H2 (by simpa using hr))

theorem refMac2_spec {d e : Nat} (hck : ¬ c = k) (x : MnC g c k p real ss asked) (hl : asked.length ≤ 100000) (w v : Sl) (ks bs : List Int) (rk : RdC 1 g e w (ks.map byV)) (hk : ∀ x ∈ ks, isByte x) (hlk : ks.length ≤ 70000000) (r : RdC 1 g d v (bs.map byV)) (hb : ∀ x ∈ bs, isByte x) (hlb : bs.length ≤ 70000000) {R : Value → Heap → Prop}
    (H1 : real = true → ∀ g' : GH, Mv [] g g' → R (.agg (tagA (macB ks bs))) g'.h)
    (H2 : real = false → ∀ g' : GH, Mv [c, k] g g' → MnC g' c k p real ss (askT asked (rM ks bs)).2 → R (.agg (tagA (numT (askT asked (rM ks bs)).1))) g'.h) : HC Try.prog F.ref04_Maker_Mac #[.pointer (some ⟨p, 0, none⟩), .slice w.a w.n w.c, .slice v.a v.n v.c] R g.h := by
  refine ref04_Maker_Mac.calls (key1 := w) (b2 := v) ?_
  unfold ref04_Maker_Mac.body
  obtain ⟨y, hy, hyn⟩ := fresh_exists g [c, k, d, e]
  simp only [List.mem_cons, List.mem_nil_iff, or_false, not_or] at hyn
  rw [zTag]
  refine new_C g y fun t q1 m1 b1 => ?_
  have x1 := x.mv m1 (by simp) (by simp)
  have r1 := r.mv m1 (by simp)
  have rk1 := rk.mv m1 (by simp)
  obtain ⟨sa, b, o⟩ := x1
  simp only [derefK_some, fldK_some]
  rw [loadK_C b]
  refine ⟨real, rfl, ?_⟩
  by_cases hr : real = true
  · rw [if_pos hr]
    refine ref03Of_spec q1 w v ks bs rk1 hlk hk r1 hb hlb fun q2 m2 => ⟨_, rfl, ?_⟩
    exact realTail hy ((m1.step m2 (by simp)).mono (by simp)) (b1.mv m2 (by simp)) (by simp [macB, shaB_length]) (H1 hr)
  · rw [if_neg hr]
    refine toStr_C (e := T.uint8) (by kernel_rfl) (by kernel_rfl) (by kernel_rfl) rk1 ?_
    refine toStr_C (e := T.uint8) (by kernel_rfl) (by kernel_rfl) (by kernel_rfl) r1 ?_
    refine ⟨⟨ShRT.enc (rM ks bs)⟩, fun w => by kernel_rfl, ?_⟩
    exact refTail hck hy hyn.1 hyn.2.1 (m1.mono (by simp)) ⟨sa, b, o⟩ b1 hl (okRM (by omega) (by omega)) (H2 (by simpa using hr))

theorem refDraw2_spec {d : Nat} (hck : ¬ c = k) (x : MnC g c k p real ss asked) (hl : asked.length ≤ 100000) (n : Int) (hn : -9223372036854775808 ≤ n ∧ n ≤ 9223372036854775807) (seed : List Int) (rs : RdC 1 g d ss (seed.map byV)) (hsb : ∀ x ∈ seed, isByte x) (hsl : seed.length ≤ 1000000) {R : Value → Heap → Prop}
    (H1 : real = true → ∀ g' : GH, Mv [] g g' → R (.agg (tagA (shaB (drawB ++ seed ++ eightB n)))) g'.h)
    (H2 : real = false → ∀ g' : GH, Mv [c, k] g g' → MnC g' c k p real ss (askT asked (rD n)).2 → R (.agg (tagA (numT (askT asked (rD n)).1))) g'.h) : HC Try.prog F.ref04_Maker_Draw #[.pointer (some ⟨p, 0, none⟩), .int .i64 n] R g.h := by
  refine ref04_Maker_Draw.calls ?_
  unfold ref04_Maker_Draw.body
  obtain ⟨y, hy, hyn⟩ := fresh_exists g [c, k, d]
  simp only [List.mem_cons, List.mem_nil_iff, or_false, not_or] at hyn
  obtain ⟨y2, hy2, hyn2⟩ := fresh_exists g [c, k, d, y]
  simp only [List.mem_cons, List.mem_nil_iff, or_false, not_or] at hyn2
  obtain ⟨y3, hy3, hyn3⟩ := fresh_exists g [c, k, d, y, y2]
  simp only [List.mem_cons, List.mem_nil_iff, or_false, not_or] at hyn3
  rw [zTag]
  refine new_C g y fun t q1 m1 b1 => ?_
  have x1 := x.mv m1 (by simp) (by simp)
  have rs1 := rs.mv m1 (by simp)
  obtain ⟨sa, b, o⟩ := x1
  simp only [derefK_some, fldK_some]
  rw [loadK_C b]
  refine ⟨real, rfl, ?_⟩
  by_cases hr : real = true
  · rw [if_pos hr]
    have m : Mv [y, y2, y3] g q1 := m1.mono (by simp)
    have tail : ∀ (q : GH) (u : Sl) (f : Nat), Mv [y, y2, y3] g q → BlkC q y t (Array.replicate 32 (.int .u8 0)) T.api_Tag → RdC 1 q f u ((drawB ++ seed ++ eightB n).map byV) →
        callK Try.prog .agg F.ref02_Of #[(.slice u.a u.n u.c)] (fun (v_13 : Array Value) (h : Heap) =>
        storeAggK (sizeOfT Try.prog T.api_Tag) h (some ⟨t, 0, none⟩) v_13 (fun (h : Heap) =>
        quietK Try.prog .agg (Instr.loadAt T.api_Tag (.pointer (some ⟨t, 0, none⟩))) (fun (r_14 : Array Value) =>
        R (.agg r_14) h) h)) q.h := by
      intro q u f m bt ru
      refine refOf_spec q u _ ru (by simp [drawB, eightB_length]; omega) (fun z hz => ?_) fun q2 m2 => ⟨_, rfl, ?_⟩
      · rcases List.mem_append.1 hz with hz | hz
        · rcases List.mem_append.1 hz with hz | hz
          · have : ∀ y ∈ drawB, isByte y := by simp [drawB, isByte]
            exact this z hz
          · exact hsb z hz
        · exact eightB_byte n z hz
      · refine result_C (n := 32) szTag dTag (bt.mv m2 (by simp)) (by simp) (by simp [shaB_length]) (fun v hv => oneBy _ v hv) fun q3 m3 => ?_
        have M := (m.step m2 (by simp)).step m3 (by simp)
        refine H1 hr (g.via q3 id) (M.re id fun j hj => ?_)
        simp only [List.mem_cons, List.mem_nil_iff, or_false] at hj
        rcases hj with rfl | rfl | rfl
        · exact .inr hy
        · exact .inr hy2
        · exact .inr hy3
    refine newSl_C q1 y2 rfl fun s3 q3 m3 o3 hn3 hc3 => ?_
    replace m := m.step m3 (by simp)
    replace b := b.mv m3 (by simp)
    replace b1 := b1.mv m3 (by simp)
    replace rs1 := rs1.mv m3 (by simp)
    refine convRd (e := T.uint8) (by kernel_rfl) (by kernel_rfl) o3 (by simp) fun q4 m4 r4 k4 => ?_
    replace m := m.step m4 (by simp)
    replace b := b.mv m4 (by simp [Ne.symm hyn2.1])
    replace b1 := b1.mv m4 (by simp [Ne.symm hyn2.2.2.2])
    replace rs1 := rs1.mv m4 (by simp [Ne.symm hyn2.2.2.1])
    rw [loadK_C b]
    refine ⟨ss, rfl, ?_⟩
    have r4' : RdC 1 q4 y2 s3 (drawB.map byV) := r4
    have hl3 := r4'.len
    have hls := rs1.len
    rw [List.length_map] at hl3 hls
    have hd4 : drawB.length = 4 := rfl
    by_cases h0 : seed = []
    · have hn0 : ss.n = 0 := by rw [hls, h0]; rfl
      refine appendNil_rule (e := T.uint8) (e2 := T.uint8) (sz := 1) (by kernel_rfl) (by kernel_rfl) (by kernel_rfl) (by have := rs1.rd; rw [h0] at this; exact this) hn0 (by omega) ?_
      refine refEight_spec q4 y3 n fun s5 q5 m5 o5 => ⟨_, rfl, ?_⟩
      have h5 := o5.len
      simp only [List.length_map, eightB_length] at h5
      refine appendNew_C (e := T.uint8) (e2 := T.uint8) (sz := 1) (by_ := 1) (z := .int .u8 0) (by kernel_rfl) (by kernel_rfl) (by kernel_rfl) rfl (by omega) y3 (r4'.mv m5 (by simp)).rd o5.rd.rd (by omega) (by omega) fun s6 q6 m6 o6 hn6 => ?_
      refine tail q6 s6 y3 ((m.step m5 (by simp)).step m6 (by simp)) ((b1.mv m5 (by simp)).mv m6 (by simp)) ?_
      rw [h0, List.append_nil, List.map_append]
      exact o6.rd
    · have hpos : 0 < seed.length := List.length_pos_iff.2 h0
      refine appendNew_C (e := T.uint8) (e2 := T.uint8) (sz := 1) (by_ := 1) (z := .int .u8 0) (by kernel_rfl) (by kernel_rfl) (by kernel_rfl) rfl (by omega) y3 r4'.rd rs1.rd (by omega) (by omega) fun s5 q5 m5 o5 hn5 => ?_
      replace m := m.step m5 (by simp)
      replace b1 := b1.mv m5 (by simp)
      refine refEight_spec q5 y2 n fun s6 q6 m6 o6 => ⟨_, rfl, ?_⟩
      have h6 := o6.len
      simp only [List.length_map, eightB_length] at h6
      refine append_C (e := T.uint8) (e2 := T.uint8) (sz := 1) (by_ := 1) (z := .int .u8 0) (by kernel_rfl) (by kernel_rfl) (by kernel_rfl) rfl (by omega) (o5.mv m6 (by simp)) o6.rd.rd (fun v hv => oneBy _ v hv) (by omega) fun s7 q7 m7 o7 hn7 _ => ?_
      refine tail q7 s7 y3 ((m.step m6 (by simp)).step m7 (by simp)) ((b1.mv m6 (by simp)).mv m7 (by simp [Ne.symm hyn3.2.2.2.1])) ?_
      rw [List.map_append, List.map_append]
      exact o7.rd
  · rw [if_neg hr]
    refine ⟨⟨ShRT.enc (rD n)⟩, fun w => by kernel_rfl, ?_⟩
    exact refTail hck hy hyn.1 hyn.2.1 (m1.mono (by simp)) ⟨sa, b, o⟩ b1 hl (okRD hn) (H2 (by simpa using hr))
end

end Go.Proofs.Ytgdkaljbjhbeiaa
