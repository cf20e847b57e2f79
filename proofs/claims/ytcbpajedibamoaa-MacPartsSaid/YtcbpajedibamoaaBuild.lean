/-
  A value of many cells from its parts. Nothing of a given program stands here.
-/
import Derived.Test.YtcbpajedibamoaaConv
set_option linter.unusedSimpArgs false
set_option linter.unusedVariables false
namespace Go.Ev
open Go

theorem fold_seg (off : Nat) : ∀ (vs : List Value) (k : Nat) (cs : Array Value), off + k + vs.length ≤ cs.size →
    (vs.zipIdx k).foldl (fun (cs : Array Value) (x : Value × Nat) => cs.setIfInBounds (off + x.2) x.1) cs = overA cs (off + k) vs
  | [], k, cs, h => by simp [overA]
  | v :: vs, k, cs, h => by
    simp only [List.length_cons] at h
    rw [List.zipIdx_cons, List.foldl_cons, fold_seg off vs (k + 1) _ (by simp; omega)]
    unfold overA
    rw [Array.toList_setIfInBounds]
    apply congrArg
    have := list_seg_step cs.toList (off + k) v vs (by simp; omega)
    simpa [Nat.add_assoc] using this

def fillA (place : Nat → Option (Nat × Nat)) (cells : Array Value) : List (Nat × Value) → Option (Array Value)
  | [] => some cells
  | (i, v) :: rest =>
    match place i with
    | none => none
    | some (off, size) => if v.cells.size ≠ size || off + v.cells.size > cells.size then none else fillA place (overA cells off v.cells.toList) rest

theorem fill_eq (place : Nat → Option (Nat × Nat)) : ∀ (parts : List (Nat × Value)) (cells : Array Value), Instr.fill place cells parts = fillA place cells parts
  | [], cells => rfl
  | (i, v) :: rest, cells => by
    unfold Instr.fill fillA
    cases place i with
    | none => rfl
    | some x =>
      obtain ⟨off, size⟩ := x
      dsimp only
      split
      · rfl
      · rename_i h
        have hle : off + v.cells.size ≤ cells.size := by simp at h; omega
        have : v.cells.zipIdx.foldl (fun cs (x : Value × Nat) => cs.setIfInBounds (off + x.2) x.1) cells = overA cells off v.cells.toList := by
          have := fold_seg off v.cells.toList 0 cells (by simpa using hle)
          rw [Nat.add_zero] at this
          rw [← this, ← Array.foldl_toList]
          simp
        rw [fill_eq place rest, ← this]

section
variable {P : Program}

theorem slice_upto {s : Sl} {i : Int} {n sz : Nat} {K : Sl → Prop} (hi : i = (n : Int)) (hn : n ≤ s.c) (hK : K ⟨if s.c = 0 then s.a else s.a.map (·.add (0 * sz)), n - 0, s.c - 0⟩) : sliceK s none (some i) none sz K :=
  ⟨0, n, s.c, rfl, ⟨hi, hn⟩, rfl, hK⟩

/-- The fields of a structure. -/
def structFs (P : Program) (t : TypeId) : Array Field := match P.underlying t with | some (.struct fs) => fs | _ => #[]

theorem build_struct {t : TypeId} {fs : Array Field} {z : Array Value} {places : Array (Nat × Nat)} {parts : Array (Nat × Value)} {cells : Array Value} (hu : P.underlying t = some (.struct fs)) (hz : ∀ w : World, (zeroValue t).run P w = .ok (.agg z) w)
    (hp : ∀ w : World, (fs.mapM fun f => do pure (f.offset, ← sizeOf f.type) : Sem (Array (Nat × Nat))).run P w = .ok places w) (hf : fillA (places[·]?) z parts.toList = some cells) (w : World) : (Instr.build t parts).run P w = .ok (.agg cells) w := by
  unfold Instr.build
  simp only [Sem.run_bind, hz, Result.andThen_ok, run_underlying hu, hp, Value.cells, fill_eq, hf, Sem.run_pure]

end
end Go.Ev
