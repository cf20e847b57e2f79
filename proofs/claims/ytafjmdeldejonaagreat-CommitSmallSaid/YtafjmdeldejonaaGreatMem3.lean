/-
  'append' to a row that has no room: a new row. Nothing of a given program stands here.
-/
import Derived.Test.YtafjmdeldejonaaGreatCol
set_option linter.unusedSimpArgs false
set_option linter.unusedVariables false
namespace Go.Ev
open Go

section
variable {P : Program}

theorem appendNew_rule {e e2 sT xT rT : TypeId} {sz : Nat} {i : TypeInfo} {z : Value} (hsT : P.underlying sT = some (.slice e)) (hdx : P.underlying xT = some (.slice e2))
    (hi : P.info? e = some i) (hsz : i.size = sz) (hz : i.zero = some z) (hzs : z.cells.size = sz) (hby : i.bytes ≤ 4096)
    {s x : Sl} {vs ws : List Value} {h : Heap} (hs : Rd sz h s vs) (hx : Rd sz h x ws) (hfit : ¬ s.n + x.n ≤ s.c) (hlen : s.n + x.n ≤ 1000000000) (hcl : s.c ≤ 1000000000) {K : Sl → Heap → Prop}
    (hK : ∀ (s' : Sl) (h' : Heap), Own e sz h' s' (vs ++ ws) → s'.n = s.n + x.n → Ext h h' → (∀ b, s'.blk = some b → h.size ≤ b) → K s' h') :
    opK P .slice (Builtin.append_ #[sT, xT] rT #[.slice s.a s.n s.c, .slice x.a x.n x.c]) K h := by
  intro w hw
  subst hw
  have hsize : (sizeOf e).run P w = .ok sz w := by simp [sizeOf, run_typeInfo hi, hsz]
  have hnc : Builtin.nextslicecap (s.n + x.n) s.c * i.bytes ≤ 2 ^ 48 := by
    have h1 := nextslicecap_le (s.n + x.n) s.c (by omega)
    calc Builtin.nextslicecap (s.n + x.n) s.c * i.bytes ≤ (2 * (s.n + x.n) + 192) * 4096 := Nat.mul_le_mul h1 hby
      _ ≤ 2 ^ 48 := by omega
  have hzv : ∀ w : World, (zeroValue e).run P w = .ok z w := fun w => by simp [zeroValue, run_typeInfo hi, hz]
  let need := s.n + x.n
  let q := Question.appendCap need s.c e
  let cap := q.cut (w.tape w.drawn q)
  let w1 : World := { w with drawn := w.drawn + 1 }
  let cells : Array Value := (⟨vs⟩ ++ ⟨ws⟩ ++ Builtin.zeroCells z.cells (cap - need) : Array Value)
  have hcap : need ≤ cap := by simp only [cap, q, Question.cut]; omega
  refine ⟨⟨some ⟨w.heap.size, 0, none⟩, need, cap⟩, { w1 with heap := w.heap.push (.cells cells e (0, 0)) }, ?_, ⟨rfl, rfl, rfl⟩, hK _ _ ?_ rfl ?_ ?_⟩
  · have hfx := firstCells_run (P := P) w1 (s := x) hx
    have hfs := firstCells_run (P := P) w1 (s := s) hs
    unfold Builtin.append_
    simp only [List.getElem?_toArray, List.getElem?_cons_zero, List.getElem?_cons_succ, Sem.run_bind, run_underlying hsT, run_underlying hdx, Result.andThen_ok, Sem.run_pure, hsize, Bool.false_eq_true, if_false, Bool.not_false, if_true, Builtin.lenOf]
    rw [if_neg hfit]
    have hni : ¬ (((s.n + x.n : Nat) : Int) > IntKind.i64.max ∧ (False ∨ i.bytes = 0)) := by
      have : IntKind.i64.max = 9223372036854775807 := rfl
      omega
    have hch : (choose (.appendCap (s.n + x.n) s.c e)).run P w = .ok cap w1 := by simp [choose, Sem.run, Question.forced, cap, q, w1, need]
    have hask : ∀ n : Nat, (askRoom n).run P w1 = .ok () w1 := fun n => by unfold askRoom; split <;> simp [mark, Sem.run]
    have hni2 : ¬ (((s.n + x.n : Nat) : Int) > IntKind.i64.max) := by
      have : IntKind.i64.max = 9223372036854775807 := rfl
      omega
    simp only [Sem.run_bind, run_typeInfo hi, Result.andThen_ok, hni2, false_and, and_false, if_false, not_true_eq_false, gt_iff_lt]
    simp only [Sem.run_ite, Sem.run_bind, Nat.not_lt.2 hnc, if_false, hch, Result.andThen_ok, run_typeInfo hi, hask, hfs, hfx, hzv, newRow, newObj, Sem.run, Sem.run_pure]
    rfl
  · refine ⟨by simp [hs.1, hx.1, Nat.add_mul, need], hcap, .inr ⟨w.heap.size, 0, cells, rfl, push_last _ _, ?_, ?_⟩⟩
    · have h1 : need * sz + (cap - need) * sz = cap * sz := by rw [← Nat.add_mul]; congr 1; omega
      simp only [cells, Array.size_append, zeroCells_size, hzs, List.size_toArray]
      have h2 := hs.1
      have h3 := hx.1
      have h4 : need * sz = s.n * sz + x.n * sz := by simp [need, Nat.add_mul]
      omega
    · intro j hj
      simp only [cells, Nat.zero_add]
      rw [Array.getElem?_append_left (by simpa using hj)]
      simp
  · exact Ext.push _ _
  · intro b hb
    simp [Sl.blk] at hb
    omega

/-- A row that has no room is not written to: the longer one is new. -/
theorem appendNew_C {e e2 sT xT rT : TypeId} {sz by_ : Nat} {z : Value} (hsT : P.underlying sT = some (.slice e)) (hdx : P.underlying xT = some (.slice e2))
    (hi : (P.info? e).map (fun i => (i.zero, i.size, i.bytes)) = some (some z, sz, by_)) (hzs : z.cells.size = sz) (hby : by_ ≤ 4096)
    {g : GH} (c : Nat) {s x : Sl} {vs ws : List Value} (hs : Rd sz g.h s vs) (hx : Rd sz g.h x ws) (hfit : s.c < s.n + x.n) (hlen : s.n + x.n ≤ 1000000000) {K : Sl → Heap → Prop}
    (hK : ∀ (s' : Sl) (g' : GH), Mv [] g g' → OwnC e sz g' c s' (vs ++ ws) → s'.n = s.n + x.n → K s' g'.h) :
    opK P .slice (Builtin.append_ #[sT, xT] rT #[.slice s.a s.n s.c, .slice x.a x.n x.c]) K g.h := by
  cases hq : P.info? e with
  | none => rw [hq] at hi; cases hi
  | some i =>
    rw [hq] at hi
    simp only [Option.map_some, Option.some.injEq, Prod.mk.injEq] at hi
    obtain ⟨h1, h2, h3⟩ := hi
    refine appendNew_rule hsT hdx hq h2 h1 hzs (by omega) hs hx (by omega) hlen (by omega) fun s' h' own hn ex hb => ?_
    exact hK s' (g.to h' c) (GH.to_ext c ex) ⟨own, fun b hb' => g.to_new _ _ _ (hb b hb')⟩ hn

end
end Go.Ev
