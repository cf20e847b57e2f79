/-
  The rows of flat data that the law's kit lends, and what it finds of them again. Printed by kitflat.py.
-/
import Derived.Test.YtgllngcoclnpeaaGreatKApi
set_option linter.unusedSimpArgs false
set_option linter.unusedVariables false
namespace Go.Proofs.YtgllngcoclnpeaaGreat
open Go Go.Ev


/-! ### Tags -/

theorem neqF_Tag {x y : (ShTag).T} {ox oy : Operand} (hx : (ShTag).ok x) (hy : (ShTag).ok y) {K : Bool → Prop} (H : ∀ r : Bool, (r = true ↔ ¬ x = y) → K r) : eqK Tryz.prog (binSem .neq T.api_Tag ox oy (.agg ⟨(ShTag).enc x⟩) (.agg ⟨(ShTag).enc y⟩)) K :=
  neqK_flat (P := Tryz.prog) ShTag (t := T.api_Tag) (m := 10) (by decide) rfl (by kernel_rfl) (by kernel_rfl) (by kernel_rfl) (by kernel_rfl) (by kernel_rfl) hx hy H
theorem mkTag_C (g : GH) (c : Nat) {x : (ShTag).T} (ok : (ShTag).ok x) {K : Sl → Heap → Prop} (H : ∀ (s : Sl) (g' : GH), Mv [] g g' → OwnF T.api_Tag ShTag g' c s [x] → s.c = 1 → K s g'.h) : opK Tryz.prog .slice (Instr.buildSlice T.sl_api_Tag 1 #[(0, .agg ⟨(ShTag).enc x⟩)]) K g.h :=
  buildRows_C (e := T.api_Tag) (sz := (ShTag).size) (z := .agg (zerosOf Tryz.prog T.api_Tag)) (by kernel_rfl) (by kernel_rfl) (by decide) [.agg ⟨(ShTag).enc x⟩] rfl (by
    intro v hv
    simp only [List.mem_singleton] at hv
    subst hv
    have := Sh.enc_length (s := ShTag) rfl ok
    simpa [Value.cells] using this) rfl (by simp) (by show 1 * (ShTag).size ≤ 16777216; decide) g c fun s g' m o hn hc =>
    H s g' m ⟨by simpa [Value.cells] using o, fun y hy => by simp only [List.mem_singleton] at hy; subst hy; exact ok, by simpa using hn⟩ (by simpa using hc)

/-! ### Entries -/

/-! ### Msgs -/

theorem szF_Msg : sizeOfT Tryz.prog T.api_Msg = (ShMsg).size := by kernel_rfl
theorem eqF_Msg {x y : (ShMsg).T} {ox oy : Operand} (hx : (ShMsg).ok x) (hy : (ShMsg).ok y) {K : Bool → Prop} (H : ∀ r : Bool, (r = true ↔ x = y) → K r) : eqK Tryz.prog (binSem .eql T.api_Msg ox oy (.agg ⟨(ShMsg).enc x⟩) (.agg ⟨(ShMsg).enc y⟩)) K :=
  eqK_flat (P := Tryz.prog) ShMsg (t := T.api_Msg) (m := 10) (by decide) rfl (by kernel_rfl) (by kernel_rfl) (by kernel_rfl) (by kernel_rfl) (by kernel_rfl) hx hy H
theorem neqF_Msg {x y : (ShMsg).T} {ox oy : Operand} (hx : (ShMsg).ok x) (hy : (ShMsg).ok y) {K : Bool → Prop} (H : ∀ r : Bool, (r = true ↔ ¬ x = y) → K r) : eqK Tryz.prog (binSem .neq T.api_Msg ox oy (.agg ⟨(ShMsg).enc x⟩) (.agg ⟨(ShMsg).enc y⟩)) K :=
  neqK_flat (P := Tryz.prog) ShMsg (t := T.api_Msg) (m := 10) (by decide) rfl (by kernel_rfl) (by kernel_rfl) (by kernel_rfl) (by kernel_rfl) (by kernel_rfl) hx hy H
theorem markMsg_spec (g : GH) (k i : Int) {R : Value → Heap → Prop} (H : ∀ g' : GH, Mv [] g g' → R (.agg ⟨ShMsg.enc (markMsgD k i)⟩) g'.h) : HC Tryz.prog F.kit_markMsg #[.int .i64 k, .int .i64 i] R g.h := by
  refine kit_markMsg.calls ?_
  unfold kit_markMsg.body
  first
    | (refine mark_spec ⟨_, rfl, ?_⟩
       refine ⟨⟨ShMsg.enc (markMsgD k i)⟩, fun w => by kernel_rfl, ?_⟩
       exact H g (Mv.refl _ _))
    | (rw [zMsg]
       refine new_C g.base 1 fun p q1 m1 b1 => ?_
       refine mark_spec ⟨_, rfl, ?_⟩
       refine ⟨⟨ShMsg.enc (markMsgD k i)⟩, fun w => by kernel_rfl, ?_⟩
       refine result_C (n := 234) szMsg dMsg b1 (lenMsg (x := msg0) ⟨okI0, ok0, okI0, ok0, okI0, ok0, okEntry0, trivial⟩) (show (ShMsg.enc (markMsgD k i)).length = 234 from lenMsg (okMarkMsg k i)) (fun v hv => Sh.enc_one (s := ShMsg) rfl v hv) fun q2 m2 => ?_
       have m : Mv [1] g.base q2 := (m1.trans m2).mono (by simp)
       exact H (g.via q2 fun _ => 0) (m.via (by simp) _))
def marksMsgs : List (ShMsg).T := (List.range 12).map fun j : Nat => markMsgD 1 (j : Int)
abbrev LentMsgsC (g : GH) (c : Nat) (v : Sl) (xs : List (ShMsg).T) : Prop := LentF T.api_Msg ShMsg marksMsgs g c v xs

theorem appendMsgs_C {g : GH} {c d : Nat} {v w : Sl} {xs ys : List (ShMsg).T} (hs : OwnF T.api_Msg ShMsg g c v xs) (hx : SlC g d ShMsg w ys) (hlen : v.n + w.n ≤ 1000000000) {K : Sl → Heap → Prop}
    (hK : ∀ (v' : Sl) (g' : GH), Mv [c] g g' → OwnF T.api_Msg ShMsg g' c v' (xs ++ ys) → K v' g'.h) :
    opK Tryz.prog .slice (Builtin.append_ #[T.sl_api_Msg, T.sl_api_Msg] T.sl_api_Msg #[.slice v.a v.n v.c, .slice w.a w.n w.c]) K g.h :=
  appendF_C (e := T.api_Msg) (e2 := T.api_Msg) (by_ := 304) (z := .agg (zerosOf Tryz.prog T.api_Msg)) rfl (by kernel_rfl) (by kernel_rfl) (by kernel_rfl) (by kernel_rfl) (by omega) hs hx hlen hK
theorem mkMsg_C (g : GH) (c : Nat) {x : (ShMsg).T} (ok : (ShMsg).ok x) {K : Sl → Heap → Prop} (H : ∀ (s : Sl) (g' : GH), Mv [] g g' → OwnF T.api_Msg ShMsg g' c s [x] → s.c = 1 → K s g'.h) : opK Tryz.prog .slice (Instr.buildSlice T.sl_api_Msg 1 #[(0, .agg ⟨(ShMsg).enc x⟩)]) K g.h :=
  buildRows_C (e := T.api_Msg) (sz := (ShMsg).size) (z := .agg (zerosOf Tryz.prog T.api_Msg)) (by kernel_rfl) (by kernel_rfl) (by decide) [.agg ⟨(ShMsg).enc x⟩] rfl (by
    intro v hv
    simp only [List.mem_singleton] at hv
    subst hv
    have := Sh.enc_length (s := ShMsg) rfl ok
    simpa [Value.cells] using this) rfl (by simp) (by show 1 * (ShMsg).size ≤ 16777216; decide) g c fun s g' m o hn hc =>
    H s g' m ⟨by simpa [Value.cells] using o, fun y hy => by simp only [List.mem_singleton] at hy; subst hy; exact ok, by simpa using hn⟩ (by simpa using hc)

theorem LentMsgs_C (g : GH) (c : Nat) {d : Nat} (l : Sl) (xs : List (ShMsg).T) {R : Value → Heap → Prop} (hr : SlC g d ShMsg l xs) (hlen : xs.length ≤ 100000000)
    (H : ∀ (s' : Sl) (g' : GH), Mv [] g g' → LentMsgsC g' c s' xs → R (.slice s'.a s'.n s'.c) g'.h) : HC Tryz.prog F.kit_LentMsgs #[.slice l.a l.n l.c] R g.h := by
  refine kit_LentMsgs.calls (l0 := l) ?_
  unfold kit_LentMsgs.body
  have hn : l.n = xs.length := hr.len
  rw [show IntKind.i64.wrap ((l.n : Int) + 12) = ((l.n + 12 : Nat) : Int) from wrapI64 (by omega) (by omega)]
  have m : Mv [1] g.base g.base := Mv.refl _ _
  refine makeF_C (e := T.api_Msg) (s := ShMsg) (by_ := 304) (z := .agg (zerosOf Tryz.prog T.api_Msg)) (by kernel_rfl) (by kernel_rfl) (by omega) g.base 1 (c := l.n + 12) (by omega) fun s1 q1 m1 o1 hc1 => ?_
  replace m := m.step m1 (by simp)
  refine appendMsgs_C o1 (hr.arg m (by simp)) (by have := o1.len; simp at this; omega) fun s2 q2 m2 o2 => ?_
  replace m := m.step m2 (by simp)
  rw [List.nil_append] at o2
  refine loopW_rule (fun st h' => ∃ (i : Nat) (s' : Sl) (q : GH), i ≤ 12 ∧ st = (s', (i : Int)) ∧ h' = q.h ∧ Mv [1] g.base q ∧ OwnF T.api_Msg ShMsg q 1 s' (xs ++ (List.range i).map fun j : Nat => markMsgD 1 (j : Int))) (fun st => 12 - st.2.toNat)
    ⟨0, s2, q2, by omega, rfl, rfl, m, by simpa using o2⟩ ?_
  clear m
  rintro X _ _ ⟨i, s', q, hi, rfl, rfl, m, o⟩ hX
  try dsimp only
  have hl' : s'.n = xs.length + i := by have := o.len; simpa using this
  by_cases hlt : i < 12
  · rw [if_pos (by first | omega | (simp; omega))]
    refine markMsg_spec q 1 (i : Int) fun q3 m3 => ⟨_, rfl, ?_⟩
    refine mkMsg_C q3 2 (okMarkMsg 1 (i : Int)) fun s4 q4 m4 o4 hc4 => ?_
    have o' := (o.mv m3 (by simp)).mv m4 (by simp)
    refine appendMsgs_C o' (o4.slc rfl (by simp)) (by have := o4.len; simp at this; omega) fun s5 q5 m5 o5 => ?_
    rw [wrapSucc (by omega)]
    refine hX _ _ ⟨i + 1, s5, q5, by omega, rfl, rfl, ((m.step m3 (by simp)).step m4 (by simp)).step m5 (by simp), ?_⟩ (by simp; omega)
    rw [List.range_succ, List.map_append, ← List.append_assoc]
    exact o5
  · rw [if_neg (by first | omega | (simp; omega))]
    have : i = 12 := by omega
    subst this
    refine slice_to o.plain rfl (by have := o.cap; omega) ?_
    refine H ⟨s'.a, l.n, s'.c⟩ (g.via q fun _ => c) (m.via (by simp) _) ⟨?_, hn⟩
    have o2 := o.via m (by simp) (fun _ => c)
    have hlm : marksMsgs.length = 12 := rfl
    rw [hlm, show l.n + 12 = s'.n from by omega]
    exact o2

theorem KeptMsgs_C {g : GH} {c d : Nat} (out l : Sl) (xs : List (ShMsg).T) {R : Value → Heap → Prop} (ho : LentMsgsC g c out xs) (hr : SlC g d ShMsg l xs) (hlen : xs.length ≤ 100000000)
    (H : ∀ g' : GH, Mv [] g g' → R (.bool true) g'.h) : HC Tryz.prog F.kit_KeptMsgs #[.slice out.a out.n out.c, .slice l.a l.n l.c] R g.h := by
  refine kit_KeptMsgs.calls (out0 := out) (l1 := l) ?_
  unfold kit_KeptMsgs.body
  have hn : out.n = xs.length := ho.len
  have hm : l.n = xs.length := hr.len
  rw [if_neg (by simp [hn, hm])]
  rw [show IntKind.i64.wrap ((l.n : Int) + 12) = ((l.n + 12 : Nat) : Int) from wrapI64 (by omega) (by omega)]
  have hlm : marksMsgs.length = 12 := rfl
  have hcap := ho.cap
  rw [hlm] at hcap
  refine slice_to (s := out) ho.own.plain rfl (by omega) ?_
  have hall0 : SlC g c ShMsg ⟨out.a, l.n + 12, out.c⟩ (xs ++ marksMsgs) := by
    have := ho.own.slc rfl (by rw [List.length_append, hlm]; omega)
    rwa [hlm, hn, ← hm] at this
  have hal : (xs ++ marksMsgs).length = l.n + 12 := by rw [List.length_append, hlm, hm]
  refine loopW_rule (fun st h' => ∃ (i : Nat) (q : GH), i ≤ l.n + 12 ∧ st = (i : Int) ∧ h' = q.h ∧ Mv [] g q) (fun st => l.n + 12 - st.toNat) ⟨0, g, by omega, rfl, rfl, Mv.refl _ _⟩ ?_
  rintro X _ _ ⟨i, q, hi, rfl, rfl, m⟩ hX
  have hall := hall0.mv m (by simp)
  have hrq := hr.mv m (by simp)
  try dsimp only
  by_cases hlt : i < l.n + 12
  · rw [if_pos (by first | omega | (simp; omega))]
    by_cases hl : i < l.n
    · have hi' : i < xs.length := by omega
      rw [if_pos (by first | omega | (simp; omega))]
      refine hall.idxF rfl szF_Msg (by decide) (by omega) fun b o hcs ok hel => ?_
      refine hrq.idxF rfl szF_Msg (by decide) hi' fun b' o' hcs' ok' hel' => ?_
      refine loadF hcs szF_Msg (by decide) hel ?_
      refine loadF hcs' szF_Msg (by decide) hel' ?_
      refine eqF_Msg ok ok' fun r hr => ?_
      have hrt : r = true := hr.2 (by rw [List.getElem_append_left hi'])
      subst hrt
      rw [if_neg (by simp), if_neg (by first | omega | (simp; omega)), wrapSucc (by omega)]
      exact hX _ _ ⟨i + 1, q, by omega, rfl, rfl, m⟩ (by simp; omega)
    · rw [if_neg (by first | omega | (simp; omega)), if_pos (by first | omega | (simp; omega))]
      refine hall.idxF rfl szF_Msg (by decide) (by omega) fun b o hcs ok hel => ?_
      refine loadF hcs szF_Msg (by decide) hel ?_
      rw [show IntKind.i64.wrap ((i : Int) - (l.n : Int)) = ((i - l.n : Nat) : Int) from by rw [wrapI64 (by omega) (by omega)]; omega]
      refine markMsg_spec q 1 _ fun q2 m2 => ⟨_, rfl, ?_⟩
      refine ⟨stillF (hcs.mv m2 (by simp)) szF_Msg (by decide) hel, ?_⟩
      refine eqF_Msg ok (okMarkMsg _ _) fun r hr => ?_
      have hget : (xs ++ marksMsgs)[i]'(by omega) = markMsgD 1 ((i - l.n : Nat) : Int) := by
        rw [List.getElem_append_right (by omega)]
        simp only [marksMsgs, List.getElem_map, List.getElem_range, hm]
      have hrt : r = true := hr.2 hget
      subst hrt
      rw [if_neg (by simp), wrapSucc (by omega)]
      exact hX _ _ ⟨i + 1, q2, by omega, rfl, rfl, m.step m2 (by simp)⟩ (by simp; omega)
  · rw [if_neg (by first | omega | (simp; omega))]
    exact H q m

theorem OverMsgs_C {g : GH} {c : Nat} (out : Sl) {vs : List Value} {R : Value → Heap → Prop} (ho : OwnC T.api_Msg (ShMsg).size g c out vs) (hlen : out.n ≤ 1000000000)
    (H : ∀ g' : GH, Mv [c] g g' → R (.tuple #[]) g'.h) : HC Tryz.prog F.kit_OverMsgs #[.slice out.a out.n out.c] R g.h := by
  refine kit_OverMsgs.calls (out0 := out) ?_
  unfold kit_OverMsgs.body
  have hnc := ho.cap
  rw [show IntKind.i64.wrap ((out.n : Int) + 12) = ((out.n + 12 : Nat) : Int) from wrapI64 (by omega) (by omega)]
  refine slice_to (n := min (out.n + 12) out.c) ho.plain (by split <;> omega) (by omega) ?_
  obtain ⟨ws, hws⟩ := ho.grow (m := min (out.n + 12) out.c) (by omega)
  refine loopW_rule (fun st h' => ∃ (i : Nat) (us : List Value) (q : GH), i ≤ min (out.n + 12) out.c ∧ st = (i : Int) ∧ h' = q.h ∧ OwnC T.api_Msg (ShMsg).size q c ⟨out.a, min (out.n + 12) out.c, out.c⟩ us ∧ Mv [c] g q) (fun st => min (out.n + 12) out.c - st.toNat)
    ⟨0, ws, g, by omega, rfl, rfl, hws, Mv.refl _ _⟩ ?_
  rintro X _ _ ⟨i, us, q, hi, rfl, rfl, hown, m⟩ hX
  by_cases hlt : i < min (out.n + 12) out.c
  · rw [if_pos (by simp; omega)]
    obtain ⟨y, hy, hyn⟩ := fresh_exists q [c]
    refine markMsg_spec q 2 _ fun q2 m2 => ⟨_, rfl, ?_⟩
    refine idxStoreRaw (hown.mv m2 (by simp)) szF_Msg (by decide) (show i < min (out.n + 12) out.c from hlt) (Sh.enc_length rfl (okMarkMsg 2 i)) (fun w hw => Sh.enc_one (s := ShMsg) rfl w hw) fun us' q3 m3 o3 => ?_
    rw [wrapSucc (by omega)]
    exact hX _ _ ⟨i + 1, _, q3, by omega, rfl, rfl, o3, (m.step m2 (by simp)).step m3 (by simp)⟩ (by simp; omega)
  · rw [if_neg (by simp; omega)]
    exact H _ m

end Go.Proofs.YtgllngcoclnpeaaGreat
