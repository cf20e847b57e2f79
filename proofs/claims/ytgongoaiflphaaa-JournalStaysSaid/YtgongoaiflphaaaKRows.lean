/-
  The rows that the law's kit lends, and what it finds of them again. Printed by kitrows.py.
-/
import Derived.Test.YtgongoaiflphaaaMem
import Derived.Test.YtgongoaiflphaaaCode
set_option linter.unusedSimpArgs false
set_option linter.unusedVariables false
namespace Go.Proofs.Ytgongoaiflphaaa
open Go Go.Ev

theorem getElem?_map_at {α β : Type} (f : α → β) {l : List α} {i : Nat} (hi : i < l.length) : (l.map f)[i]? = some (f (l[i]'hi)) := by simp [hi]

def markI (k i : Int) : Int := IntKind.i64.wrap ((IntKind.i64.wrap (1000003 * (IntKind.i64.wrap (k + 7)))) + i)
def markB (k i : Int) : Int := IntKind.u8.wrap (Int.fdiv (IntKind.u64.wrap ((IntKind.u64.wrap (markI k i)) * 11400714819323198485)) (2 ^ min (Int.toNat 56) (IntKind.bits .u64)))
/-! ### Ints -/

abbrev valInts (x : Int) : Value := .int .i64 x
def marksInts : List Value := (List.range 12).map fun i : Nat => .int .i64 (markI 1 ((i : Int)))

theorem appendInts {s x : Sl} {vs ws : List Value} {h : Heap} (hs : Own T.int 1 h s vs) (hx : Rd 1 h x ws) (hone : ∀ v ∈ ws, v.oneCell' = true) (hlen : s.n + x.n ≤ 1000000000) {K : Sl → Heap → Prop}
    (hK : ∀ (s' : Sl) (h' : Heap), Own T.int 1 h' s' (vs ++ ws) → s'.n = s.n + x.n → Frm (fun b => s.blk = some b) h h' → (∀ b, s'.blk = some b → s.blk = some b ∨ h.size ≤ b) → (s'.a = none → s.n + x.n = 0) → K s' h') :
    opK Try.prog .slice (Builtin.append_ #[T.sl_int, T.sl_int] T.sl_int #[.slice s.a s.n s.c, .slice x.a x.n x.c]) K h := by
  exact append_rule2 (e := T.int) (e2 := T.int) (sz := 1) (by_ := 8) (z := .int .i64 0) (by kernel_rfl) (by kernel_rfl) (by kernel_rfl) rfl (by omega) hs hx hone hlen hK

/-! ### Limbs -/

abbrev valLimbs (x : Int) : Value := .int .u32 x
def marksLimbs : List Value := (List.range 12).map fun i : Nat => .int .u32 (IntKind.u32.wrap (markI 1 ((i : Int))))

theorem appendLimbs {s x : Sl} {vs ws : List Value} {h : Heap} (hs : Own T.uint32 1 h s vs) (hx : Rd 1 h x ws) (hone : ∀ v ∈ ws, v.oneCell' = true) (hlen : s.n + x.n ≤ 1000000000) {K : Sl → Heap → Prop}
    (hK : ∀ (s' : Sl) (h' : Heap), Own T.uint32 1 h' s' (vs ++ ws) → s'.n = s.n + x.n → Frm (fun b => s.blk = some b) h h' → (∀ b, s'.blk = some b → s.blk = some b ∨ h.size ≤ b) → (s'.a = none → s.n + x.n = 0) → K s' h') :
    opK Try.prog .slice (Builtin.append_ #[T.sl_uint32, T.sl_uint32] T.sl_uint32 #[.slice s.a s.n s.c, .slice x.a x.n x.c]) K h := by
  exact append_rule2 (e := T.uint32) (e2 := T.uint32) (sz := 1) (by_ := 4) (z := .int .u32 0) (by kernel_rfl) (by kernel_rfl) (by kernel_rfl) rfl (by omega) hs hx hone hlen hK

/-! ### Bytes -/

abbrev valBytes (x : Int) : Value := .int .u8 x
def marksBytes : List Value := (List.range 12).map fun i : Nat => .int .u8 (markB 1 ((i : Int)))

theorem appendBytes {s x : Sl} {vs ws : List Value} {h : Heap} (hs : Own T.uint8 1 h s vs) (hx : Rd 1 h x ws) (hone : ∀ v ∈ ws, v.oneCell' = true) (hlen : s.n + x.n ≤ 1000000000) {K : Sl → Heap → Prop}
    (hK : ∀ (s' : Sl) (h' : Heap), Own T.uint8 1 h' s' (vs ++ ws) → s'.n = s.n + x.n → Frm (fun b => s.blk = some b) h h' → (∀ b, s'.blk = some b → s.blk = some b ∨ h.size ≤ b) → (s'.a = none → s.n + x.n = 0) → K s' h') :
    opK Try.prog .slice (Builtin.append_ #[T.sl_uint8, T.sl_uint8] T.sl_uint8 #[.slice s.a s.n s.c, .slice x.a x.n x.c]) K h := by
  exact append_rule2 (e := T.uint8) (e2 := T.uint8) (sz := 1) (by_ := 1) (z := .int .u8 0) (by kernel_rfl) (by kernel_rfl) (by kernel_rfl) rfl (by omega) hs hx hone hlen hK

end Go.Proofs.Ytgongoaiflphaaa
