/-
  The statement ForkCompares.
-/
import Derived.Test.YtgggpnjjkcfckaaKLaw21
set_option linter.unusedSimpArgs false
set_option linter.unusedVariables false
namespace Go.Proofs.Ytgggpnjjkcfckaa
open Go Go.Ev

set_option maxHeartbeats 1000000 in
theorem ForkCompares_spec (g : GH) {c d : Nat} (va vb : Sl) (xs ys : List EntryT) (n : Int) (ha : SlC g c ShEntry va xs) (hb : SlC g d ShEntry vb ys) {R : Value → Heap → Prop} (H : ∀ g' : GH, Mv [] g g' → R (.bool true) g'.h) :
    HC Try.prog F.law21_ForkCompares #[.slice va.a va.n va.c, .slice vb.a vb.n vb.c, .int .i64 n] R g.h := by
  refine law21_ForkCompares.calls (a0 := va) (b1 := vb) ?_
  unfold law21_ForkCompares.body
  have hn := ha.len
  have hm := hb.len
  have hs1 := ha.small
  have hs2 := hb.small
  have m := Mv.refl [1, 2] g.base
  have fin : ∀ q : GH, Mv [1, 2] g.base q → R (.bool true) q.h := fun q m => H (g.via q fun _ => 0) (m.via (by simp) _)
  rw [show IntKind.i64.wrap ((va.n : Int) + (vb.n : Int)) = ((va.n + vb.n : Nat) : Int) from by rw [wrapI64 (by omega) (by omega)]; omega]
  by_cases hgt : va.n + vb.n > 200
  · rw [if_pos (by simp; omega)]
    exact awake21_spec g.base fun q m => ⟨_, rfl, fin q (m.mono (by simp))⟩
  · rw [if_neg (by simp; omega)]
    have ax : SlC g.base 0 ShEntry va xs := ha.arg m (by simp)
    have bx : SlC g.base 0 ShEntry vb ys := hb.arg m (by simp)
    refine LentEntries_C g.base 1 va xs ax (by omega) fun s1 q1 m1 o1 => ⟨_, rfl, ?_⟩
    replace m := m.step m1 (by simp)
    replace ax := ax.mv m1 (by simp)
    replace bx := bx.mv m1 (by simp)
    refine LentEntries_C q1 2 vb ys bx (by omega) fun s2 q2 m2 o2 => ⟨_, rfl, ?_⟩
    replace m := m.step m2 (by simp)
    replace ax := ax.mv m2 (by simp)
    replace bx := bx.mv m2 (by simp)
    replace o1 := o1.mv m2 (by simp)
    dsimp only
    refine compare_spec (o1.slc rfl (by omega)) (o2.slc rfl (by omega)) fun q3 m3 => ⟨((compareT xs ys).1, ((compareT xs ys).2 : Int)), rfl, ?_⟩
    replace m := m.step m3 (by simp)
    replace ax := ax.mv m3 (by simp)
    replace bx := bx.mv m3 (by simp)
    replace o1 := o1.mv m3 (by simp)
    replace o2 := o2.mv m3 (by simp)
    refine ref21Compare_spec ax bx ⟨((compareT xs ys).1, ((compareT xs ys).2 : Int)), rfl, ?_⟩
    dsimp only
    rw [if_pos (by simp), if_pos (by simp)]
    refine rolled_spec (o1.slc rfl (by omega)) (o2.slc rfl (by omega)) fun q4 m4 => ⟨_, rfl, ?_⟩
    replace m := m.step m4 (by simp)
    replace ax := ax.mv m4 (by simp)
    replace bx := bx.mv m4 (by simp)
    replace o1 := o1.mv m4 (by simp)
    replace o2 := o2.mv m4 (by simp)
    refine ref21Rolled_spec ax bx ⟨_, rfl, ?_⟩
    dsimp only
    rw [if_pos (by simp)]
    refine signer_spec ⟨_, rfl, ref21Signer_spec ⟨_, rfl, ?_⟩⟩
    dsimp only
    rw [if_pos (by simp)]
    refine KeptEntries_C s1 va xs o1 ax (by omega) fun q5 m5 => ⟨_, rfl, ?_⟩
    replace m := m.step m5 (by simp)
    replace bx := bx.mv m5 (by simp)
    replace o2 := o2.mv m5 (by simp)
    dsimp only
    rw [if_pos rfl]
    refine KeptEntries_C s2 vb ys o2 bx (by omega) fun q6 m6 => ⟨_, rfl, ?_⟩
    replace m := m.step m6 (by simp)
    dsimp only
    rw [if_pos rfl]
    exact awake21_spec q6 fun q m' => ⟨_, rfl, fin q (m.step m' (by simp))⟩

theorem ForkCompares_walk {h : Heap} (a : Option Addr) (la ca : Nat) (x : List EntryT) (w : Lay h (.sl ShEntry) x [.slice a la ca]) (b : Option Addr) (lb cb : Nat) (y : List EntryT) (w' : Lay h (.sl ShEntry) y [.slice b lb cb]) (n : Int) (hn : (Lit.int IntKind.i64 n).wf = true) :
    HC Try.prog F.law21_ForkCompares #[.slice a la ca, .slice b lb cb, .int .i64 n] (fun v h' => v = .bool true ∧ Ext h h') h :=
  ForkCompares_spec ⟨h, fun _ => 0⟩ ⟨a, la, ca⟩ ⟨b, lb, cb⟩ x y n (c := 0) (d := 0) (w.arg (Mv.refl [] _) (by simp)) (w'.arg (Mv.refl [] _) (by simp)) fun g' m => ⟨rfl, m.ext (by simp)⟩

end Go.Proofs.Ytgggpnjjkcfckaa
