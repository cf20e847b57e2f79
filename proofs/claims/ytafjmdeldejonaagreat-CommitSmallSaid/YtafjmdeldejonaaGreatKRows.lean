/-
  The rows that the law's kit lends, and what it finds of them again. Printed by kitrows.py.
-/
import Derived.Test.YtafjmdeldejonaaGreatMem
import Derived.Test.YtafjmdeldejonaaGreatCode
set_option linter.unusedSimpArgs false
set_option linter.unusedVariables false
namespace Go.Proofs.YtafjmdeldejonaaGreat
open Go Go.Ev

theorem getElem?_map_at {α β : Type} (f : α → β) {l : List α} {i : Nat} (hi : i < l.length) : (l.map f)[i]? = some (f (l[i]'hi)) := by simp [hi]

def markI (k i : Int) : Int := IntKind.i64.wrap ((IntKind.i64.wrap (1000003 * (IntKind.i64.wrap (k + 7)))) + i)
theorem mark_spec {k i : Int} {R : Value → Heap → Prop} {h : Heap} (H : R (.int .i64 (markI k i)) h) : HC Tryz.prog F.kit_mark #[.int .i64 k, .int .i64 i] R h := kit_mark.calls H

def markB (k i : Int) : Int := IntKind.u8.wrap (Int.fdiv (IntKind.u64.wrap ((IntKind.u64.wrap (markI k i)) * 11400714819323198485)) (2 ^ min (Int.toNat 56) (IntKind.bits .u64)))
theorem markByte_spec {k i : Int} {R : Value → Heap → Prop} {h : Heap} (H : R (.int .u8 (markB k i)) h) : HC Tryz.prog F.kit_markByte #[.int .i64 k, .int .i64 i] R h :=
  by
  refine kit_markByte.calls ?_
  unfold kit_markByte.body
  exact mark_spec ⟨_, rfl, by decide, H⟩

/-! ### Ints -/

/-! ### Limbs -/

theorem appendLimbs {s x : Sl} {vs ws : List Value} {h : Heap} (hs : Own T.uint32 1 h s vs) (hx : Rd 1 h x ws) (hone : ∀ v ∈ ws, v.oneCell' = true) (hlen : s.n + x.n ≤ 1000000000) {K : Sl → Heap → Prop}
    (hK : ∀ (s' : Sl) (h' : Heap), Own T.uint32 1 h' s' (vs ++ ws) → s'.n = s.n + x.n → Frm (fun b => s.blk = some b) h h' → (∀ b, s'.blk = some b → s.blk = some b ∨ h.size ≤ b) → (s'.a = none → s.n + x.n = 0) → K s' h') :
    opK Tryz.prog .slice (Builtin.append_ #[T.sl_uint32, T.sl_uint32] T.sl_uint32 #[.slice s.a s.n s.c, .slice x.a x.n x.c]) K h := by
  exact append_rule2 (e := T.uint32) (e2 := T.uint32) (sz := 1) (by_ := 4) (z := .int .u32 0) (by kernel_rfl) (by kernel_rfl) (by kernel_rfl) rfl (by omega) hs hx hone hlen hK

/-! ### Bytes -/

abbrev valBytes (x : Int) : Value := .int .u8 x
def marksBytes : List Value := (List.range 12).map fun i : Nat => .int .u8 (markB 1 ((i : Int)))

theorem appendBytes {s x : Sl} {vs ws : List Value} {h : Heap} (hs : Own T.uint8 1 h s vs) (hx : Rd 1 h x ws) (hone : ∀ v ∈ ws, v.oneCell' = true) (hlen : s.n + x.n ≤ 1000000000) {K : Sl → Heap → Prop}
    (hK : ∀ (s' : Sl) (h' : Heap), Own T.uint8 1 h' s' (vs ++ ws) → s'.n = s.n + x.n → Frm (fun b => s.blk = some b) h h' → (∀ b, s'.blk = some b → s.blk = some b ∨ h.size ≤ b) → (s'.a = none → s.n + x.n = 0) → K s' h') :
    opK Tryz.prog .slice (Builtin.append_ #[T.sl_uint8, T.sl_uint8] T.sl_uint8 #[.slice s.a s.n s.c, .slice x.a x.n x.c]) K h := by
  exact append_rule2 (e := T.uint8) (e2 := T.uint8) (sz := 1) (by_ := 1) (z := .int .u8 0) (by kernel_rfl) (by kernel_rfl) (by kernel_rfl) rfl (by omega) hs hx hone hlen hK

theorem LentBytes_spec (l : Sl) (vs : List Value) {R : Value → Heap → Prop} {h : Heap} (hr : Rd 1 h l vs) (hone : ∀ v ∈ vs, v.oneCell' = true) (hlen : vs.length ≤ 100000000)
    (H : ∀ (s' : Sl) (h' : Heap), Lent T.uint8 h' s' vs marksBytes → Ext h h' → (∀ b, s'.blk = some b → h.size ≤ b) → R (.slice s'.a s'.n s'.c) h') : HC Tryz.prog F.kit_LentBytes #[.slice l.a l.n l.c] R h := by
  refine kit_LentBytes.calls (l0 := l) ?_
  unfold kit_LentBytes.body
  have hn : l.n = vs.length := hr.len
  rw [show IntKind.i64.wrap ((l.n : Int) + 12) = ((l.n + 12 : Nat) : Int) from wrapI64 (by omega) (by omega)]
  refine make_rule (e := T.uint8) (l := 0) (c := l.n + 12) (by_ := 1) (z := .int .u8 0) (by kernel_rfl) (by kernel_rfl) rfl (by omega) (by omega) (by omega) ?_
  have hext0 := Ext.push h (.cells (Array.replicate (l.n + 12) (.int .u8 0)) T.uint8 (0, 0))
  have hown0 : Own T.uint8 1 (h.push (.cells (Array.replicate (l.n + 12) (.int .u8 0)) T.uint8 (0, 0))) ⟨some ⟨h.size, 0, none⟩, 0, l.n + 12⟩ [] :=
    ⟨rfl, Nat.zero_le _, .inr ⟨h.size, 0, _, rfl, push_last _ _, by simp, by simp⟩⟩
  refine appendBytes hown0 (hr.ext hext0) hone (by simp; omega) ?_
  intro s1 h1 hown1 hn1 hf1 hb1 _
  have hext1 : Ext h h1 := hext0.trans' hf1 (fun b hb x => by simp [Sl.blk] at x; omega)
  have hblk1 : ∀ b, s1.blk = some b → h.size ≤ b := fun b hb => by
    rcases hb1 b hb with y | y
    · simp [Sl.blk] at y; omega
    · simp at y; omega
  refine loopW_rule (fun st h' => ∃ (i : Nat) (s' : Sl), i ≤ 12 ∧ st = (s', (i : Int)) ∧ Own T.uint8 1 h' s' (vs ++ (List.range i).map fun j : Nat => .int .u8 (markB 1 ((j : Int)))) ∧ Ext h h' ∧ (∀ b, s'.blk = some b → h.size ≤ b)) (fun st => 12 - st.2.toNat)
    ⟨0, s1, by omega, rfl, by simpa using hown1, hext1, hblk1⟩ ?_
  rintro X _ h2 ⟨i, s', hi, rfl, hown, hext, hblk⟩ hX
  dsimp only
  have hl' : s'.n = vs.length + i := by have := hown.rd.len; simpa using this
  by_cases hlt : i < 12
  · rw [if_pos (by simp; omega)]
    refine markByte_spec ⟨_, rfl, ?_⟩
    unfold newSlK
    have hp := Ext.push h2 (.cells #[.int .u8 (markB 1 ((i : Int)))] T.uint8 (0, 0))
    refine appendBytes (hown.frm hp (fun _ _ x => x)) (Rd.new h2 _ T.uint8 1 1 rfl) (by simp [Value.oneCell']) (by simp; omega) ?_
    intro s3 h3 hown3 hn3 hf3 hb3 _
    rw [wrapSucc (by omega)]
    refine hX _ _ ⟨i + 1, s3, by omega, rfl, ?_, ?_, ?_⟩ (by simp; omega)
    · rw [List.range_succ, List.map_append, ← List.append_assoc]
      exact hown3
    · refine (hext.trans hp).trans' hf3 ?_
      intro j hj hj2
      exact absurd (hblk j hj2) (by omega)
    · intro b hb
      rcases hb3 b hb with y | y
      · exact hblk b y
      · have h4 := hext.1; simp at y; omega
  · rw [if_neg (by simp; omega)]
    have : i = 12 := by omega
    subst this
    refine slice_to hown.plain rfl (by have := hown.2.1; omega) ?_
    refine H ⟨s'.a, l.n, s'.c⟩ h2 ⟨hn, ?_⟩ hext hblk
    show Own T.uint8 1 h2 ⟨s'.a, l.n + 12, s'.c⟩ (vs ++ marksBytes)
    rw [show l.n + 12 = s'.n from by omega]
    exact hown

theorem KeptBytes_spec (out l : Sl) (xs : List Int) {R : Value → Heap → Prop} {h : Heap} (ho : Lent T.uint8 h out (xs.map valBytes) marksBytes) (hr : Rd 1 h l (xs.map valBytes)) (hlen : xs.length ≤ 100000000)
    (H : R (.bool true) h) : HC Tryz.prog F.kit_KeptBytes #[.slice out.a out.n out.c, .slice l.a l.n l.c] R h := by
  refine kit_KeptBytes.calls (out0 := out) (l1 := l) ?_
  unfold kit_KeptBytes.body
  have hn : out.n = xs.length := by simpa using ho.1
  have hm : l.n = xs.length := by simpa using hr.len
  rw [if_neg (by simp [hn, hm])]
  rw [show IntKind.i64.wrap ((l.n : Int) + 12) = ((l.n + 12 : Nat) : Int) from wrapI64 (by omega) (by omega)]
  have hcap : out.n + 12 ≤ out.c := ho.cap
  refine slice_to ho.plain rfl (by omega) ?_
  have hall : Rd 1 h ⟨out.a, l.n + 12, out.c⟩ (xs.map valBytes ++ marksBytes) := by
    have := ho.all
    rw [hn, show marksBytes.length = 12 from rfl, ← hm] at this
    exact this
  refine loopW_rule (fun st h' => ∃ i : Nat, i ≤ l.n + 12 ∧ st = (i : Int) ∧ h = h') (fun st => l.n + 12 - st.toNat) ⟨0, by omega, rfl, rfl⟩ ?_
  rintro X _ _ ⟨i, hi, rfl, rfl⟩ hX
  by_cases hlt : i < l.n + 12
  · rw [if_pos (by simp; omega)]
    by_cases hl : i < l.n
    · have hi' : i < xs.length := by omega
      rw [if_pos (by simp; omega)]
      refine idxLoadN hall (by kernel_rfl) (k := .int .u8) (xs[i]'hi') (by rw [List.getElem?_append_left (by simp; omega)]; exact getElem?_map_at _ hi') ?_
      refine idxLoadN hr (by kernel_rfl) (k := .int .u8) (xs[i]'hi') (getElem?_map_at _ hi') ?_
      rw [if_neg (by simp), if_neg (by simp; omega), wrapSucc (by omega)]
      exact hX _ _ ⟨i + 1, by omega, rfl, rfl⟩ (by simp; omega)
    · rw [if_neg (by simp; omega), if_pos (by simp; omega)]
      have hd : i - xs.length < 12 := by omega
      refine idxLoadN hall (by kernel_rfl) (k := .int .u8) (markB 1 (((i - l.n : Nat) : Int))) ?_ ?_
      · rw [List.getElem?_append_right (by simp; omega)]
        simp only [marksBytes, List.length_map, hm, Kd.inj]
        rw [getElem?_map_at _ (by simpa using hd)]
        simp
      · rw [show IntKind.i64.wrap ((i : Int) - (l.n : Int)) = ((i - l.n : Nat) : Int) from by rw [wrapI64 (by omega) (by omega)]; omega]
        refine ⟨_, markByte_spec ⟨rfl, rfl⟩, ?_⟩
        dsimp only
        rw [if_neg (by simp), wrapSucc (by omega)]
        exact hX _ _ ⟨i + 1, by omega, rfl, rfl⟩ (by simp; omega)
  · rw [if_neg (by simp; omega)]
    exact H

end Go.Proofs.YtafjmdeldejonaaGreat
