/-
  The rows of flat data that the law's kit lends, and what it finds of them again. Printed by kitflat.py.
-/
import Derived.Test.YtgllngcoclnpeaaKApi
set_option linter.unusedSimpArgs false
set_option linter.unusedVariables false
namespace Go.Proofs.Ytgllngcoclnpeaa
open Go Go.Ev


/-! ### Tags -/

theorem szF_Tag : sizeOfT Try.prog T.api_Tag = (ShTag).size := by kernel_rfl
theorem eqF_Tag {x y : (ShTag).T} {ox oy : Operand} (hx : (ShTag).ok x) (hy : (ShTag).ok y) {K : Bool → Prop} (H : ∀ r : Bool, (r = true ↔ x = y) → K r) : eqK Try.prog (binSem .eql T.api_Tag ox oy (.agg ⟨(ShTag).enc x⟩) (.agg ⟨(ShTag).enc y⟩)) K :=
  eqK_flat (P := Try.prog) ShTag (t := T.api_Tag) (m := 10) (by decide) rfl (by kernel_rfl) (by kernel_rfl) (by kernel_rfl) (by kernel_rfl) (by kernel_rfl) hx hy H
theorem neqF_Tag {x y : (ShTag).T} {ox oy : Operand} (hx : (ShTag).ok x) (hy : (ShTag).ok y) {K : Bool → Prop} (H : ∀ r : Bool, (r = true ↔ ¬ x = y) → K r) : eqK Try.prog (binSem .neq T.api_Tag ox oy (.agg ⟨(ShTag).enc x⟩) (.agg ⟨(ShTag).enc y⟩)) K :=
  neqK_flat (P := Try.prog) ShTag (t := T.api_Tag) (m := 10) (by decide) rfl (by kernel_rfl) (by kernel_rfl) (by kernel_rfl) (by kernel_rfl) (by kernel_rfl) hx hy H
def marksTags : List (ShTag).T := (List.range 12).map fun j : Nat => markTagD 1 (j : Int)
abbrev LentTagsC (g : GH) (c : Nat) (v : Sl) (xs : List (ShTag).T) : Prop := LentF T.api_Tag ShTag marksTags g c v xs

theorem appendTags_C {g : GH} {c d : Nat} {v w : Sl} {xs ys : List (ShTag).T} (hs : OwnF T.api_Tag ShTag g c v xs) (hx : SlC g d ShTag w ys) (hlen : v.n + w.n ≤ 1000000000) {K : Sl → Heap → Prop}
    (hK : ∀ (v' : Sl) (g' : GH), Mv [c] g g' → OwnF T.api_Tag ShTag g' c v' (xs ++ ys) → K v' g'.h) :
    opK Try.prog .slice (Builtin.append_ #[T.sl_api_Tag, T.sl_api_Tag] T.sl_api_Tag #[.slice v.a v.n v.c, .slice w.a w.n w.c]) K g.h :=
  appendF_C (e := T.api_Tag) (e2 := T.api_Tag) (by_ := 32) (z := .agg (zerosOf Try.prog T.api_Tag)) rfl (by kernel_rfl) (by kernel_rfl) (by kernel_rfl) (by kernel_rfl) (by omega) hs hx hlen hK
theorem mkTag_C (g : GH) (c : Nat) {x : (ShTag).T} (ok : (ShTag).ok x) {K : Sl → Heap → Prop} (H : ∀ (s : Sl) (g' : GH), Mv [] g g' → OwnF T.api_Tag ShTag g' c s [x] → s.c = 1 → K s g'.h) : opK Try.prog .slice (Instr.buildSlice T.sl_api_Tag 1 #[(0, .agg ⟨(ShTag).enc x⟩)]) K g.h :=
  buildRows_C (e := T.api_Tag) (sz := (ShTag).size) (z := .agg (zerosOf Try.prog T.api_Tag)) (by kernel_rfl) (by kernel_rfl) (by decide) [.agg ⟨(ShTag).enc x⟩] rfl (by
    intro v hv
    simp only [List.mem_singleton] at hv
    subst hv
    have := Sh.enc_length (s := ShTag) rfl ok
    simpa [Value.cells] using this) rfl (by simp) (by show 1 * (ShTag).size ≤ 16777216; decide) g c fun s g' m o hn hc =>
    H s g' m ⟨by simpa [Value.cells] using o, fun y hy => by simp only [List.mem_singleton] at hy; subst hy; exact ok, by simpa using hn⟩ (by simpa using hc)

/-! ### Entries -/

theorem szF_Entry : sizeOfT Try.prog T.api_Entry = (ShEntry).size := by kernel_rfl
theorem eqF_Entry {x y : (ShEntry).T} {ox oy : Operand} (hx : (ShEntry).ok x) (hy : (ShEntry).ok y) {K : Bool → Prop} (H : ∀ r : Bool, (r = true ↔ x = y) → K r) : eqK Try.prog (binSem .eql T.api_Entry ox oy (.agg ⟨(ShEntry).enc x⟩) (.agg ⟨(ShEntry).enc y⟩)) K :=
  eqK_flat (P := Try.prog) ShEntry (t := T.api_Entry) (m := 10) (by decide) rfl (by kernel_rfl) (by kernel_rfl) (by kernel_rfl) (by kernel_rfl) (by kernel_rfl) hx hy H
theorem neqF_Entry {x y : (ShEntry).T} {ox oy : Operand} (hx : (ShEntry).ok x) (hy : (ShEntry).ok y) {K : Bool → Prop} (H : ∀ r : Bool, (r = true ↔ ¬ x = y) → K r) : eqK Try.prog (binSem .neq T.api_Entry ox oy (.agg ⟨(ShEntry).enc x⟩) (.agg ⟨(ShEntry).enc y⟩)) K :=
  neqK_flat (P := Try.prog) ShEntry (t := T.api_Entry) (m := 10) (by decide) rfl (by kernel_rfl) (by kernel_rfl) (by kernel_rfl) (by kernel_rfl) (by kernel_rfl) hx hy H
def marksEntries : List (ShEntry).T := (List.range 12).map fun j : Nat => markEntryD 1 (j : Int)
abbrev LentEntriesC (g : GH) (c : Nat) (v : Sl) (xs : List (ShEntry).T) : Prop := LentF T.api_Entry ShEntry marksEntries g c v xs

/-! ### Msgs -/

theorem szF_Msg : sizeOfT Try.prog T.api_Msg = (ShMsg).size := by kernel_rfl
theorem eqF_Msg {x y : (ShMsg).T} {ox oy : Operand} (hx : (ShMsg).ok x) (hy : (ShMsg).ok y) {K : Bool → Prop} (H : ∀ r : Bool, (r = true ↔ x = y) → K r) : eqK Try.prog (binSem .eql T.api_Msg ox oy (.agg ⟨(ShMsg).enc x⟩) (.agg ⟨(ShMsg).enc y⟩)) K :=
  eqK_flat (P := Try.prog) ShMsg (t := T.api_Msg) (m := 10) (by decide) rfl (by kernel_rfl) (by kernel_rfl) (by kernel_rfl) (by kernel_rfl) (by kernel_rfl) hx hy H
theorem neqF_Msg {x y : (ShMsg).T} {ox oy : Operand} (hx : (ShMsg).ok x) (hy : (ShMsg).ok y) {K : Bool → Prop} (H : ∀ r : Bool, (r = true ↔ ¬ x = y) → K r) : eqK Try.prog (binSem .neq T.api_Msg ox oy (.agg ⟨(ShMsg).enc x⟩) (.agg ⟨(ShMsg).enc y⟩)) K :=
  neqK_flat (P := Try.prog) ShMsg (t := T.api_Msg) (m := 10) (by decide) rfl (by kernel_rfl) (by kernel_rfl) (by kernel_rfl) (by kernel_rfl) (by kernel_rfl) hx hy H
def marksMsgs : List (ShMsg).T := (List.range 12).map fun j : Nat => markMsgD 1 (j : Int)
abbrev LentMsgsC (g : GH) (c : Nat) (v : Sl) (xs : List (ShMsg).T) : Prop := LentF T.api_Msg ShMsg marksMsgs g c v xs

theorem appendMsgs_C {g : GH} {c d : Nat} {v w : Sl} {xs ys : List (ShMsg).T} (hs : OwnF T.api_Msg ShMsg g c v xs) (hx : SlC g d ShMsg w ys) (hlen : v.n + w.n ≤ 1000000000) {K : Sl → Heap → Prop}
    (hK : ∀ (v' : Sl) (g' : GH), Mv [c] g g' → OwnF T.api_Msg ShMsg g' c v' (xs ++ ys) → K v' g'.h) :
    opK Try.prog .slice (Builtin.append_ #[T.sl_api_Msg, T.sl_api_Msg] T.sl_api_Msg #[.slice v.a v.n v.c, .slice w.a w.n w.c]) K g.h :=
  appendF_C (e := T.api_Msg) (e2 := T.api_Msg) (by_ := 304) (z := .agg (zerosOf Try.prog T.api_Msg)) rfl (by kernel_rfl) (by kernel_rfl) (by kernel_rfl) (by kernel_rfl) (by omega) hs hx hlen hK
theorem mkMsg_C (g : GH) (c : Nat) {x : (ShMsg).T} (ok : (ShMsg).ok x) {K : Sl → Heap → Prop} (H : ∀ (s : Sl) (g' : GH), Mv [] g g' → OwnF T.api_Msg ShMsg g' c s [x] → s.c = 1 → K s g'.h) : opK Try.prog .slice (Instr.buildSlice T.sl_api_Msg 1 #[(0, .agg ⟨(ShMsg).enc x⟩)]) K g.h :=
  buildRows_C (e := T.api_Msg) (sz := (ShMsg).size) (z := .agg (zerosOf Try.prog T.api_Msg)) (by kernel_rfl) (by kernel_rfl) (by decide) [.agg ⟨(ShMsg).enc x⟩] rfl (by
    intro v hv
    simp only [List.mem_singleton] at hv
    subst hv
    have := Sh.enc_length (s := ShMsg) rfl ok
    simpa [Value.cells] using this) rfl (by simp) (by show 1 * (ShMsg).size ≤ 16777216; decide) g c fun s g' m o hn hc =>
    H s g' m ⟨by simpa [Value.cells] using o, fun y hy => by simp only [List.mem_singleton] at hy; subst hy; exact ok, by simpa using hn⟩ (by simpa using hc)

end Go.Proofs.Ytgllngcoclnpeaa
