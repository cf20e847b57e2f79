/-
  Bytes that are read by any calls, up to the end, are just those that the same fields are put as.
-/
import Derived.Test.YtejpfoccooodbaaKLaw17
import Derived.Test.YtejpfoccooodbaaKFields
set_option linter.unusedSimpArgs false
set_option linter.unusedVariables false
namespace Go.Proofs.Ytejpfoccooodbaa
open Go Go.Ev

theorem i64Ints {xs : List Int} (h : ∀ x ∈ xs, IntKind.i64.min ≤ x ∧ x ≤ IntKind.i64.max) : ∀ x ∈ xs, -9223372036854775808 ≤ x ∧ x ≤ 9223372036854775807 := fun x hx => h x hx

abbrev KO : List Nat := [1, 2, 3, 4]

theorem CodecOne_spec (g : GH) {c d : Nat} (v w : Sl) (bs ls : List Int) (hv : SlC g c (.int .u8) v bs) (hw : SlC g d (.int .i64) w ls) {R : Value → Heap → Prop} (H : ∀ g' : GH, Mv [] g g' → R (.bool true) g'.h) :
    HC Try.prog F.law17_CodecOne #[.slice v.a v.n v.c, .slice w.a w.n w.c] R g.h := by
  refine law17_CodecOne.calls (b0 := v) (l1 := w) ?_
  unfold law17_CodecOne.body
  obtain ⟨hr, hby0⟩ := hv.ints
  obtain ⟨hrl, hli0⟩ := hw.ints
  have hby : ∀ x ∈ bs, isByte x := fun x hx => hby0 x hx
  have hli := i64Ints hli0
  have hn := hv.len
  have hnl := hw.len
  have h1 := hv.small
  have h2 := hw.small
  have m : Mv KO g.base g.base := Mv.refl _ _
  refine awake17_spec g.base fun q1 m1 => ⟨_, rfl, ?_⟩
  replace m := m.step m1 (by simp)
  dsimp only
  rw [if_neg (by simp), wrapI64 (by omega) (by omega)]
  by_cases hbig : v.n + w.n ≤ 3000
  case neg =>
    rw [if_pos (by simp; omega)]
    exact H (g.via q1 fun _ => 0) (m.via (by simp) _)
  rw [if_neg (by simp; omega)]
  refine read_spec q1 1 2 v bs (hr.arg m (by simp)) (by omega) hby fun p q2 m2 rd => ⟨_, rfl, ?_⟩
  replace m := m.step m2 (by simp)
  refine codecNew_spec q2 3 4 fun p2 q3 m3 wr => ⟨_, rfl, ?_⟩
  replace m := m.step m3 (by simp)
  replace rd := rd.mv m3 (by simp) (by simp)
  refine loopW_rule (fun s h' => ∃ (i : Nat) (q : GH) (st : Bool × Nat) (e : Int) (out : List Int), i ≤ ls.length ∧ s = (i : Int) ∧ h' = q.h ∧ Mv KO g.base q ∧ RdrC q 1 2 p st bs ∧ WrC q 3 4 p2 e out ∧ OneOk bs st (e, out)) (fun s => ls.length - s.toNat)
    ⟨0, q3, (false, 0), 0, [], by omega, rfl, rfl, m, rd, wr, Nat.zero_le _, fun _ => rfl⟩ ?_
  clear m rd wr
  rintro X _ _ ⟨i, q, st, e, out, hi, rfl, rfl, m, rd, wr, hok⟩ hX
  have hlb : bs.length ≤ 60000 := by omega
  by_cases hlt : i < ls.length
  · rw [if_pos (by simp; omega)]
    refine idxLoadN (hrl.arg m (by simp)).rd zInt (k := .int .i64) ls[i] (getElem?_map_at _ hlt) ?_
    have hx := hli _ (List.getElem_mem hlt)
    generalize ls[i] = x at hx
    refine Pick_spec x 4 hx (by decide) ⟨_, rfl, ?_⟩
    have hx4 : x % 4 = 0 ∨ x % 4 = 1 ∨ x % 4 = 2 ∨ x % 4 = 3 := by omega
    dsimp only
    have next : ∀ (q' : GH) (st' : Bool × Nat) (e' : Int) (out' : List Int), Mv KO g.base q' → RdrC q' 1 2 p st' bs → WrC q' 3 4 p2 e' out' → OneOk bs st' (e', out') → X (IntKind.i64.wrap ((i : Int) + 1)) q'.h := fun q' st' e' out' m' r' w' o' => by
      rw [wrapSucc (by omega)]
      exact hX _ _ ⟨i + 1, q', st', e', out', by omega, rfl, rfl, m', r', w', o'⟩ (by simp; omega)
    rcases hx4 with h | h | h | h <;> rw [h]
    · rw [if_pos (by rfl)]
      refine rByte_spec (by decide) rd fun q5 m5 rd => ⟨_, rfl, ?_⟩
      replace m := m.step m5 (by simp)
      replace wr := wr.mv m5 (by simp) (by simp)
      refine newSl_C q5 5 rfl fun s6 q6 m6 o6 hn6 hc6 => ?_
      replace m := m.step m6 (by simp)
      replace wr := wr.mv m6 (by simp) (by simp)
      replace rd := rd.mv m6 (by simp) (by simp)
      refine wByte_spec (by decide) (by decide) (by decide) wr s6 [_] o6.rd (by simp) fun q7 m7 wr => ⟨_, rfl, ?_⟩
      replace m := m.step m7 (by simp)
      replace rd := rd.mv m7 (by simp) (by simp)
      exact next q7 _ _ _ m rd wr (oneOk_byte hlb hby hok)
    · rw [if_neg (by simp), if_pos (by rfl)]
      refine rNumber_spec (by decide) rd fun q5 m5 rd => ⟨_, rfl, ?_⟩
      replace m := m.step m5 (by simp)
      replace wr := wr.mv m5 (by simp) (by simp)
      refine newSl_C q5 5 rfl fun s6 q6 m6 o6 hn6 hc6 => ?_
      replace m := m.step m6 (by simp)
      replace wr := wr.mv m6 (by simp) (by simp)
      replace rd := rd.mv m6 (by simp) (by simp)
      refine wNumber_spec (by decide) (by decide) (by decide) wr s6 [_] o6.rd (by simp) fun q7 m7 wr => ⟨_, rfl, ?_⟩
      replace m := m.step m7 (by simp)
      replace rd := rd.mv m7 (by simp) (by simp)
      exact next q7 _ _ _ m rd wr (oneOk_num hlb hby hok)
    · rw [if_neg (by simp), if_neg (by simp), if_pos (by rfl)]
      refine rTag_spec (by decide) rd fun q5 m5 rd => ⟨_, rfl, ?_⟩
      replace m := m.step m5 (by simp)
      replace wr := wr.mv m5 (by simp) (by simp)
      refine buildTag_C q5 5 (tagR_len hok.1) (tagR_byte hby) fun s6 q6 m6 o6 => ?_
      replace m := m.step m6 (by simp)
      replace wr := wr.mv m6 (by simp) (by simp)
      replace rd := rd.mv m6 (by simp) (by simp)
      refine wTag_spec (by decide) (by decide) (by decide) wr s6 [_] o6 (by simp) fun q7 m7 wr => ⟨_, rfl, ?_⟩
      replace m := m.step m7 (by simp)
      replace rd := rd.mv m7 (by simp) (by simp)
      exact next q7 _ _ _ m rd wr (oneOk_tag hlb hby hok)
    · rw [if_neg (by simp), if_neg (by simp), if_neg (by simp), if_pos (by rfl)]
      refine rRun_spec 5 (by decide) rd fun s5 q5 m5 rd o5 => ⟨_, rfl, ?_⟩
      replace m := m.step m5 (by simp)
      replace wr := wr.mv m5 (by simp) (by simp)
      refine newSl_C q5 5 rfl fun s6 q6 m6 o6 hn6 hc6 => ?_
      replace m := m.step m6 (by simp)
      replace wr := wr.mv m6 (by simp) (by simp)
      replace rd := rd.mv m6 (by simp) (by simp)
      replace o5 := o5.mv m6 (by simp)
      have hrl := runR_len (bs := bs) (st := st)
      refine wRun_spec (by decide) (by decide) (by decide) wr s6 [(runR bs st).1] (RowsC.one o6.rd o5.rd o5.cap) (fun x hx => by simp at hx; subst hx; omega) (by simp) fun q7 m7 wr => ⟨_, rfl, ?_⟩
      replace m := m.step m7 (by simp)
      replace rd := rd.mv m7 (by simp) (by simp)
      exact next q7 _ _ _ m rd wr (oneOk_run hlb hby hok)
  · rw [if_neg (by simp; omega)]
    clear hX
    have fin : ∀ (r : Value) (s5 : Sl) (q5 : GH) (e' : Int), Mv KO g.base q5 → RdrC q5 1 2 p st bs → (e = 0 → e' = 0 ∧ RdC 1 q5 5 s5 (out.map byV)) → (e ≠ 0 → e' = e) → callK Try.prog (.int .i64) F.codec_Reader_End #[.pointer (some ⟨p, 0, none⟩)] (fun (v_22 : Int) (h : Heap) =>
        if (v_22 != 0) = true then R (.bool true) h
        else if (e' == 0) = true then callK Try.prog .bool F.kit_SameBytes #[(.slice s5.a s5.n s5.c), (.slice v.a v.n v.c)] (fun (v_23 : Bool) (h : Heap) => R (.bool v_23) h) h
        else R (.bool false) h) q5.h := fun _ s5 q5 e' m rd hE1 hE2 => by
      refine rEnd_spec rd ⟨_, rfl, ?_⟩
      have hH := H (g.via q5 fun _ => 0) (m.via (by simp) _)
      unfold endR
      dsimp only
      by_cases hend : st.1 = true ∨ st.2 < bs.length
      · rw [if_pos hend, if_pos (by decide)]
        exact hH
      · rw [if_neg hend, if_neg (by decide)]
        have h3 : st.1 = false := by cases h : st.1 <;> simp_all
        have h4 : st.2 = bs.length := by have := hok.1; omega
        have h5 := hok.2 h3
        rw [h4, List.take_length] at h5
        obtain ⟨rfl, rfl⟩ := Prod.mk.inj h5
        obtain ⟨rfl, r5⟩ := hE1 rfl
        rw [if_pos (by rfl)]
        refine SameBytes_spec s5 v _ _ r5.rd (hr.arg m (by simp)).rd (by omega) (by omega) ⟨_, rfl, ?_⟩
        rw [decide_eq_true rfl]
        exact hH
    refine wOut_spec 5 wr (fun he s5 q5 m5 o5 => ⟨(_, _), rfl, ?_⟩) (fun he => ⟨(⟨none, 0, 0⟩, e), rfl, ?_⟩)
    · try dsimp only
      replace m := m.step m5 (by simp)
      replace rd := rd.mv m5 (by simp) (by simp)
      exact fin .nilFunc s5 q5 0 m rd (fun _ => ⟨rfl, o5.rd⟩) (fun h => absurd he h)
    · exact fin .nilFunc ⟨none, 0, 0⟩ q e m rd (fun h => absurd h he) (fun _ => rfl)

theorem CodecOne_walk {h : Heap} (a : Option Addr) (la ca : Nat) (x : List Int) (w : Lay h (.sl (.int .u8)) x [.slice a la ca]) (b : Option Addr) (lb cb : Nat) (y : List Int) (w' : Lay h (.sl (.int .i64)) y [.slice b lb cb]) :
    HC Try.prog F.law17_CodecOne #[.slice a la ca, .slice b lb cb] (fun v h' => v = .bool true ∧ Ext h h') h :=
  CodecOne_spec ⟨h, fun _ => 0⟩ ⟨a, la, ca⟩ ⟨b, lb, cb⟩ x y (c := 0) (d := 0) (w.arg (Mv.refl [] _) (by simp)) (w'.arg (Mv.refl [] _) (by simp)) fun g' m => ⟨rfl, m.ext (by simp)⟩

end Go.Proofs.Ytejpfoccooodbaa
