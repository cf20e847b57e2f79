/-
  A value of many cells from its parts. Nothing of a given program stands here.
-/
import Derived.Test.YtijipdaofojbiaaConv
set_option linter.unusedSimpArgs false
set_option linter.unusedVariables false
namespace Go.Ev
open Go

theorem fold_seg (off : Nat) : ∀ (vs : List Value) (k : Nat) (cs : Array Value), off + k + vs.length ≤ cs.size →
    (vs.zipIdx k).foldl (fun (cs : Array Value) (x : Value × Nat) => cs.setIfInBounds (off + x.2) x.1) cs = overA cs (off + k) vs
  | [], k, cs, h => by simp [overA]
  | v :: vs, k, cs, h => by
    simp only [List.length_cons] at h
    rw [List.zipIdx_cons, List.foldl_cons, fold_seg off vs (k + 1) _ (by simp; omega)]
    unfold overA
    rw [Array.toList_setIfInBounds]
    apply congrArg
    have := list_seg_step cs.toList (off + k) v vs (by simp; omega)
    simpa [Nat.add_assoc] using this

def fillA (place : Nat → Option (Nat × Nat)) (cells : Array Value) : List (Nat × Value) → Option (Array Value)
  | [] => some cells
  | (i, v) :: rest =>
    match place i with
    | none => none
    | some (off, size) => if v.cells.size ≠ size || off + v.cells.size > cells.size then none else fillA place (overA cells off v.cells.toList) rest

theorem fill_eq (place : Nat → Option (Nat × Nat)) : ∀ (parts : List (Nat × Value)) (cells : Array Value), Instr.fill place cells parts = fillA place cells parts
  | [], cells => rfl
  | (i, v) :: rest, cells => by
    unfold Instr.fill fillA
    cases place i with
    | none => rfl
    | some x =>
      obtain ⟨off, size⟩ := x
      dsimp only
      split
      · rfl
      · rename_i h
        have hle : off + v.cells.size ≤ cells.size := by simp at h; omega
        have : v.cells.zipIdx.foldl (fun cs (x : Value × Nat) => cs.setIfInBounds (off + x.2) x.1) cells = overA cells off v.cells.toList := by
          have := fold_seg off v.cells.toList 0 cells (by simpa using hle)
          rw [Nat.add_zero] at this
          rw [← this, ← Array.foldl_toList]
          simp
        rw [fill_eq place rest, ← this]

section
variable {P : Program}

/-- The fields of a structure. -/
def structFs (P : Program) (t : TypeId) : Array Field := match P.underlying t with | some (.struct fs) => fs | _ => #[]

theorem build_struct {t : TypeId} {fs : Array Field} {z : Array Value} {places : Array (Nat × Nat)} {parts : Array (Nat × Value)} {cells : Array Value} (hu : P.underlying t = some (.struct fs)) (hz : ∀ w : World, (zeroValue t).run P w = .ok (.agg z) w)
    (hp : ∀ w : World, (fs.mapM fun f => do pure (f.offset, ← sizeOf f.type) : Sem (Array (Nat × Nat))).run P w = .ok places w) (hf : fillA (places[·]?) z parts.toList = some cells) (w : World) : (Instr.build t parts).run P w = .ok (.agg cells) w := by
  unfold Instr.build
  simp only [Sem.run_bind, hz, Result.andThen_ok, run_underlying hu, hp, Value.cells, fill_eq, hf, Sem.run_pure]

/-- Rows of many cells, one behind the other. -/
theorem fill_rows (sz : Nat) : ∀ (vs : List Value) (k : Nat) (cells : Array Value), (∀ v ∈ vs, v.cells.size = sz) → (k + vs.length) * sz ≤ cells.size →
    fillA (fun i => some (i * sz, sz)) cells ((vs.zipIdx k).map fun x => (x.2, x.1)) = some (overA cells (k * sz) (vs.flatMap fun v => v.cells.toList))
  | [], k, cells, _, _ => by simp [fillA, overA]
  | v :: vs, k, cells, hv, hl => by
    have h1 := hv v List.mem_cons_self
    rw [List.length_cons] at hl
    have h2 : (k + 1) * sz ≤ cells.size := Nat.le_trans (Nat.mul_le_mul_right _ (by omega)) hl
    rw [Nat.add_mul, Nat.one_mul] at h2
    have hlen : v.cells.toList.length = sz := by simpa using h1
    have hsize : (overA cells (k * sz) v.cells.toList).size = cells.size := by
      simp only [overA, List.size_toArray, List.length_append, List.length_take, List.length_drop, Array.length_toList, h1]; omega
    rw [List.zipIdx_cons, List.map_cons, fillA]
    dsimp only
    rw [if_neg (by simp [h1]; omega), fill_rows sz vs (k + 1) _ (fun u hu => hv u (List.mem_cons_of_mem _ hu)) (by rw [hsize]; rwa [Nat.add_assoc, Nat.add_comm 1])]
    congr 1
    have hfl : (vs.flatMap fun v => v.cells.toList).length = vs.length * sz := by
      have : ∀ ws : List Value, (∀ u ∈ ws, u.cells.size = sz) → (ws.flatMap fun v => v.cells.toList).length = ws.length * sz := by
        intro ws
        induction ws with
        | nil => intro _; simp
        | cons u ws ih => intro hu; rw [List.flatMap_cons, List.length_append, ih (fun x hx => hu x (List.mem_cons_of_mem _ hx)), List.length_cons, Nat.succ_mul, Array.length_toList, hu u List.mem_cons_self, Nat.add_comm]
      exact this vs fun u hu => hv u (List.mem_cons_of_mem _ hu)
    have h3 : (k + 1 + vs.length) * sz ≤ cells.size := by rwa [Nat.add_assoc, Nat.add_comm 1]
    rw [Nat.add_mul, Nat.add_mul, Nat.one_mul] at h3
    unfold overA
    apply congrArg
    rw [List.flatMap_cons, Nat.add_mul, Nat.one_mul]
    have ht : (List.take (k * sz) cells.toList).length = k * sz := by rw [List.length_take, Array.length_toList]; omega
    have e1 : List.take (k * sz + sz) (List.take (k * sz) cells.toList ++ v.cells.toList ++ List.drop (k * sz + v.cells.toList.length) cells.toList) = List.take (k * sz) cells.toList ++ v.cells.toList := by
      rw [List.take_left' (by rw [List.length_append, ht, hlen])]
    have e2 : List.drop (k * sz + sz + (List.flatMap (fun v => v.cells.toList) vs).length) (List.take (k * sz) cells.toList ++ v.cells.toList ++ List.drop (k * sz + v.cells.toList.length) cells.toList) = List.drop (k * sz + (v.cells.toList ++ List.flatMap (fun v => v.cells.toList) vs).length) cells.toList := by
      have hL : (List.take (k * sz) cells.toList ++ v.cells.toList).length = k * sz + sz := by rw [List.length_append, ht, hlen]
      rw [← hL, List.drop_append, List.drop_eq_nil_of_le (by omega), List.nil_append, hL, hlen, List.drop_drop, List.length_append, hlen]
      congr 1
      omega
    rw [e1, e2]
    simp only [List.append_assoc]

theorem buildRows_C {t e : TypeId} {n sz : Nat} {z : Value} {parts : Array (Nat × Value)} (hu : P.underlying t = some (.slice e)) (hi : (P.info? e).map (fun i => (i.zero, i.size)) = some (some z, sz)) (hsz : 0 < sz) (vs : List Value)
    (hp : parts.toList = (vs.zipIdx).map fun x => (x.2, x.1)) (hv : ∀ v ∈ vs, v.cells.size = sz) (hn : vs.length = n) (h0 : 0 < n) (hle : n * sz ≤ 16777216) (g : GH) (c : Nat) {K : Sl → Heap → Prop}
    (H : ∀ (s : Sl) (g' : GH), Mv [] g g' → OwnC e sz g' c s (vs.flatMap fun v => v.cells.toList) → s.n = n → s.c = n → K s g'.h) : opK P .slice (Instr.buildSlice t n parts) K g.h := by
  have hfl : (vs.flatMap fun v => v.cells.toList).length = n * sz := by
    rw [← hn]
    have : ∀ ws : List Value, (∀ u ∈ ws, u.cells.size = sz) → (ws.flatMap fun v => v.cells.toList).length = ws.length * sz := by
      intro ws
      induction ws with
      | nil => intro _; simp
      | cons u ws ih => intro hu; rw [List.flatMap_cons, List.length_append, ih (fun x hx => hu x (List.mem_cons_of_mem _ hx)), List.length_cons, Nat.succ_mul, Array.length_toList, hu u List.mem_cons_self, Nat.add_comm]
    exact this vs hv
  refine buildSl_C (e := e) (sz := sz) g c ⟨vs.flatMap fun v => v.cells.toList⟩ (fun w => ?_) (by simpa using hfl) H
  cases hq : P.info? e with
  | none => rw [hq] at hi; cases hi
  | some i =>
    rw [hq] at hi
    simp only [Option.map_some, Option.some.injEq, Prod.mk.injEq] at hi
    obtain ⟨h1, h2⟩ := hi
    have hsize : (sizeOf e).run P w = .ok sz w := by simp [sizeOf, run_typeInfo hq, h2]
    have hzv : (zeroValue e).run P w = .ok z w := by simp [zeroValue, run_typeInfo hq, h1]
    have hne : ¬ n * sz = 0 := by have := Nat.mul_pos h0 hsz; omega
    have hf := fill_rows sz vs 0 ((Array.range (n * sz)).map (z.cells[· % z.cells.size]!)) hv (by simp [hn])
    rw [Nat.zero_mul, overA_all (by rw [hfl]; simp)] at hf
    unfold Instr.buildSlice
    simp only [Sem.run_bind, run_underlying hu, Result.andThen_ok, hsize]
    rw [if_neg (by omega)]
    simp [Sem.run_bind, hne, hzv, fill_eq, hp, hf, newRow, newObj, Sem.run]

end
end Go.Ev
