/-
  The rows of flat data that the law's kit lends, and what it finds of them again. Printed by kitflat.py.
-/
import Derived.Test.YtejjeggaofpbiaaKApi
set_option linter.unusedSimpArgs false
set_option linter.unusedVariables false
namespace Go.Proofs.Ytejjeggaofpbiaa
open Go Go.Ev


/-! ### Tags -/

theorem szF_Tag : sizeOfT Try.prog T.api_Tag = (ShTag).size := by kernel_rfl
theorem eqF_Tag {x y : (ShTag).T} {ox oy : Operand} (hx : (ShTag).ok x) (hy : (ShTag).ok y) {K : Bool → Prop} (H : ∀ r : Bool, (r = true ↔ x = y) → K r) : eqK Try.prog (binSem .eql T.api_Tag ox oy (.agg ⟨(ShTag).enc x⟩) (.agg ⟨(ShTag).enc y⟩)) K :=
  eqK_flat (P := Try.prog) ShTag (t := T.api_Tag) (m := 10) (by decide) rfl (by kernel_rfl) (by kernel_rfl) (by kernel_rfl) (by kernel_rfl) (by kernel_rfl) hx hy H
theorem neqF_Tag {x y : (ShTag).T} {ox oy : Operand} (hx : (ShTag).ok x) (hy : (ShTag).ok y) {K : Bool → Prop} (H : ∀ r : Bool, (r = true ↔ ¬ x = y) → K r) : eqK Try.prog (binSem .neq T.api_Tag ox oy (.agg ⟨(ShTag).enc x⟩) (.agg ⟨(ShTag).enc y⟩)) K :=
  neqK_flat (P := Try.prog) ShTag (t := T.api_Tag) (m := 10) (by decide) rfl (by kernel_rfl) (by kernel_rfl) (by kernel_rfl) (by kernel_rfl) (by kernel_rfl) hx hy H
def marksTags : List (ShTag).T := (List.range 12).map fun j : Nat => markTagD 1 (j : Int)
abbrev LentTagsC (g : GH) (c : Nat) (v : Sl) (xs : List (ShTag).T) : Prop := LentF T.api_Tag ShTag marksTags g c v xs

theorem appendTags_C {g : GH} {c d : Nat} {v w : Sl} {xs ys : List (ShTag).T} (hs : OwnF T.api_Tag ShTag g c v xs) (hx : SlC g d ShTag w ys) (hlen : v.n + w.n ≤ 1000000000) {K : Sl → Heap → Prop}
    (hK : ∀ (v' : Sl) (g' : GH), Mv [c] g g' → OwnF T.api_Tag ShTag g' c v' (xs ++ ys) → K v' g'.h) :
    opK Try.prog .slice (Builtin.append_ #[T.sl_api_Tag, T.sl_api_Tag] T.sl_api_Tag #[.slice v.a v.n v.c, .slice w.a w.n w.c]) K g.h :=
  appendF_C (e := T.api_Tag) (e2 := T.api_Tag) (by_ := 32) (z := .agg (zerosOf Try.prog T.api_Tag)) rfl (by kernel_rfl) (by kernel_rfl) (by kernel_rfl) (by kernel_rfl) (by omega) hs hx hlen hK
theorem mkTag_C (g : GH) (c : Nat) {x : (ShTag).T} (ok : (ShTag).ok x) {K : Sl → Heap → Prop} (H : ∀ (s : Sl) (g' : GH), Mv [] g g' → OwnF T.api_Tag ShTag g' c s [x] → s.c = 1 → K s g'.h) : opK Try.prog .slice (Instr.buildSlice T.sl_api_Tag 1 #[(0, .agg ⟨(ShTag).enc x⟩)]) K g.h :=
  buildRows_C (e := T.api_Tag) (sz := (ShTag).size) (z := .agg (zerosOf Try.prog T.api_Tag)) (by kernel_rfl) (by kernel_rfl) (by decide) [.agg ⟨(ShTag).enc x⟩] rfl (by
    intro v hv
    simp only [List.mem_singleton] at hv
    subst hv
    have := Sh.enc_length (s := ShTag) rfl ok
    simpa [Value.cells] using this) rfl (by simp) (by show 1 * (ShTag).size ≤ 16777216; decide) g c fun s g' m o hn hc =>
    H s g' m ⟨by simpa [Value.cells] using o, fun y hy => by simp only [List.mem_singleton] at hy; subst hy; exact ok, by simpa using hn⟩ (by simpa using hc)

/-! ### Entries -/

theorem szF_Entry : sizeOfT Try.prog T.api_Entry = (ShEntry).size := by kernel_rfl
theorem eqF_Entry {x y : (ShEntry).T} {ox oy : Operand} (hx : (ShEntry).ok x) (hy : (ShEntry).ok y) {K : Bool → Prop} (H : ∀ r : Bool, (r = true ↔ x = y) → K r) : eqK Try.prog (binSem .eql T.api_Entry ox oy (.agg ⟨(ShEntry).enc x⟩) (.agg ⟨(ShEntry).enc y⟩)) K :=
  eqK_flat (P := Try.prog) ShEntry (t := T.api_Entry) (m := 10) (by decide) rfl (by kernel_rfl) (by kernel_rfl) (by kernel_rfl) (by kernel_rfl) (by kernel_rfl) hx hy H
theorem neqF_Entry {x y : (ShEntry).T} {ox oy : Operand} (hx : (ShEntry).ok x) (hy : (ShEntry).ok y) {K : Bool → Prop} (H : ∀ r : Bool, (r = true ↔ ¬ x = y) → K r) : eqK Try.prog (binSem .neq T.api_Entry ox oy (.agg ⟨(ShEntry).enc x⟩) (.agg ⟨(ShEntry).enc y⟩)) K :=
  neqK_flat (P := Try.prog) ShEntry (t := T.api_Entry) (m := 10) (by decide) rfl (by kernel_rfl) (by kernel_rfl) (by kernel_rfl) (by kernel_rfl) (by kernel_rfl) hx hy H
def marksEntries : List (ShEntry).T := (List.range 12).map fun j : Nat => markEntryD 1 (j : Int)
abbrev LentEntriesC (g : GH) (c : Nat) (v : Sl) (xs : List (ShEntry).T) : Prop := LentF T.api_Entry ShEntry marksEntries g c v xs

theorem appendEntries_C {g : GH} {c d : Nat} {v w : Sl} {xs ys : List (ShEntry).T} (hs : OwnF T.api_Entry ShEntry g c v xs) (hx : SlC g d ShEntry w ys) (hlen : v.n + w.n ≤ 1000000000) {K : Sl → Heap → Prop}
    (hK : ∀ (v' : Sl) (g' : GH), Mv [c] g g' → OwnF T.api_Entry ShEntry g' c v' (xs ++ ys) → K v' g'.h) :
    opK Try.prog .slice (Builtin.append_ #[T.sl_api_Entry, T.sl_api_Entry] T.sl_api_Entry #[.slice v.a v.n v.c, .slice w.a w.n w.c]) K g.h :=
  appendF_C (e := T.api_Entry) (e2 := T.api_Entry) (by_ := 184) (z := .agg (zerosOf Try.prog T.api_Entry)) rfl (by kernel_rfl) (by kernel_rfl) (by kernel_rfl) (by kernel_rfl) (by omega) hs hx hlen hK
theorem mkEntry_C (g : GH) (c : Nat) {x : (ShEntry).T} (ok : (ShEntry).ok x) {K : Sl → Heap → Prop} (H : ∀ (s : Sl) (g' : GH), Mv [] g g' → OwnF T.api_Entry ShEntry g' c s [x] → s.c = 1 → K s g'.h) : opK Try.prog .slice (Instr.buildSlice T.sl_api_Entry 1 #[(0, .agg ⟨(ShEntry).enc x⟩)]) K g.h :=
  buildRows_C (e := T.api_Entry) (sz := (ShEntry).size) (z := .agg (zerosOf Try.prog T.api_Entry)) (by kernel_rfl) (by kernel_rfl) (by decide) [.agg ⟨(ShEntry).enc x⟩] rfl (by
    intro v hv
    simp only [List.mem_singleton] at hv
    subst hv
    have := Sh.enc_length (s := ShEntry) rfl ok
    simpa [Value.cells] using this) rfl (by simp) (by show 1 * (ShEntry).size ≤ 16777216; decide) g c fun s g' m o hn hc =>
    H s g' m ⟨by simpa [Value.cells] using o, fun y hy => by simp only [List.mem_singleton] at hy; subst hy; exact ok, by simpa using hn⟩ (by simpa using hc)

/-! ### Msgs -/

def marksMsgs : List (ShMsg).T := (List.range 12).map fun j : Nat => markMsgD 1 (j : Int)
end Go.Proofs.Ytejjeggaofpbiaa
