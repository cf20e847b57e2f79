/-
  'append(s, make([]T, n)...)' on an empty slice: room for n. Nothing of a given program stands here.
-/
import Derived.Test.YtijipdaofojbiaaCol
set_option linter.unusedSimpArgs false
set_option linter.unusedVariables false
namespace Go.Ev
open Go

section
variable {P : Program}

theorem growNil_rule {e sT iT rT : TypeId} {k : IntKind} {by_ : Nat} {z : Value} (hsT : P.underlying sT = some (.slice e)) (hiT : P.underlying iT = some (.int k)) (hi : (P.info? e).map (fun i => (i.zero, i.size, i.bytes)) = some (some z, 1, by_)) (hzs : z.cells = #[z]) (hby : by_ ≤ 4096)
    {n : Nat} (hn : 0 < n) (hlen : n ≤ 1000000000) {h : Heap} {K : Sl → Heap → Prop}
    (hK : ∀ (s' : Sl) (h' : Heap), Own e 1 h' s' (List.replicate n z) → s'.n = n → Ext h h' → (∀ b, s'.blk = some b → h.size ≤ b) → K s' h') :
    opK P .slice (Builtin.append_ #[sT, iT] rT #[.slice none 0 0, .int .i64 (n : Int)]) K h := by
  intro w hw
  subst hw
  cases hq : P.info? e with
  | none => rw [hq] at hi; cases hi
  | some i =>
    rw [hq] at hi
    simp only [Option.map_some, Option.some.injEq, Prod.mk.injEq] at hi
    obtain ⟨h1, h2, h3⟩ := hi
    have hsize : (sizeOf e).run P w = .ok 1 w := by simp [sizeOf, run_typeInfo hq, h2]
    have hzv : ∀ w : World, (zeroValue e).run P w = .ok z w := fun w => by simp [zeroValue, run_typeInfo hq, h1]
    have hnc : Builtin.nextslicecap n 0 * i.bytes ≤ 2 ^ 48 := by
      have h1 := nextslicecap_le n 0 (by omega)
      calc Builtin.nextslicecap n 0 * i.bytes ≤ (2 * n + 192) * 4096 := Nat.mul_le_mul h1 (by omega)
        _ ≤ 2 ^ 48 := by omega
    let q := Question.appendCap n 0 e
    let cap := q.cut (w.tape w.drawn q)
    let w1 : World := { w with drawn := w.drawn + 1 }
    let cells : Array Value := (#[] ++ Builtin.zeroCells z.cells n ++ Builtin.zeroCells z.cells (cap - n) : Array Value)
    have hcap : n ≤ cap := by simp only [cap, q, Question.cut]; omega
    have wl : IntKind.i64.wrap (n : Int) = (n : Int) := wrapI64 (by omega) (by omega)
    have hbc : (n : Int) * (i.bytes : Int) ≤ 4096000000000 := by
      have : n * i.bytes ≤ 1000000000 * 4096 := Nat.mul_le_mul hlen (by omega)
      rw [← Int.natCast_mul]; omega
    have hz : Builtin.zeroCells z.cells n = Array.replicate n z := by
      unfold Builtin.zeroCells
      rw [hzs]
      apply Array.ext
      · simp
      · intro j hj1 hj2
        simp [Nat.mod_one]
    refine ⟨⟨some ⟨w.heap.size, 0, none⟩, n, cap⟩, { w1 with heap := w.heap.push (.cells cells e (0, 0)) }, ?_, ⟨rfl, rfl, rfl⟩, hK _ _ ?_ rfl ?_ ?_⟩
    · unfold Builtin.append_
      simp only [List.getElem?_toArray, List.getElem?_cons_zero, List.getElem?_cons_succ, Sem.run_bind, run_underlying hsT, run_underlying hiT, Result.andThen_ok, Sem.run_pure, hsize, Bool.false_eq_true, if_false, Bool.not_false, if_true, Builtin.lenOf, asInt, asIntOf, wl, run_typeInfo hq]
      have hl0 : ¬ (n : Int) < 0 := by omega
      have h48 : (2 : Int) ^ 48 = 281474976710656 := by decide
      have hl1 : ¬ (n : Int) * (i.bytes : Int) > 2 ^ 48 := by rw [h48]; omega
      have hch : (choose (.appendCap n 0 e)).run P w = .ok cap w1 := by simp [choose, Sem.run, Question.forced, cap, q, w1]
      have hask : ∀ n : Nat, (askRoom n).run P w1 = .ok () w1 := fun n => by unfold askRoom; split <;> simp [mark, Sem.run]
      have hni2 : ¬ (((n : Nat) : Int) > IntKind.i64.max) := by
        have : IntKind.i64.max = 9223372036854775807 := rfl
        omega
      have hn0 : ¬ n ≤ 0 := by omega
      have hn1 : ¬ n * 1 = 0 := by omega
      simp only [hl0, hl1, if_false, Sem.run_bind, Sem.run_pure, Result.andThen_ok, Int.toNat_natCast, Nat.zero_add, hn0, Sem.run_ite, hni2, false_and, Nat.not_lt.2 hnc, gt_iff_lt, hch, run_typeInfo hq, hask, Builtin.firstCells, hn1, hzv, newRow, newObj, Sem.run, Bool.not_true, Bool.false_eq_true, not_false_eq_true, if_true, true_or, and_true, Bool.true_eq_false]
      rfl
    · refine ⟨by simp, hcap, .inr ⟨w.heap.size, 0, cells, rfl, push_last _ _, ?_, ?_⟩⟩
      · have hz2 : z.cells.size = 1 := by rw [hzs]; rfl
        simp [cells, zeroCells_size, hz2]; omega
      · intro j hj
        rw [List.length_replicate] at hj
        simp only [cells, Nat.zero_add, hz]
        rw [Array.getElem?_append_left (by simp; omega)]
        simp [hj, Array.getElem?_replicate, List.getElem?_replicate]
    · exact Ext.push _ _
    · intro b hb
      simp [Sl.blk] at hb
      omega

theorem growNil_C {e sT iT rT : TypeId} {k : IntKind} {by_ : Nat} {z : Value} (hsT : P.underlying sT = some (.slice e)) (hiT : P.underlying iT = some (.int k)) (hi : (P.info? e).map (fun i => (i.zero, i.size, i.bytes)) = some (some z, 1, by_)) (hzs : z.cells = #[z]) (hby : by_ ≤ 4096)
    (g : GH) (c : Nat) {n : Nat} (hn : 0 < n) (hlen : n ≤ 1000000000) {K : Sl → Heap → Prop}
    (hK : ∀ (s' : Sl) (g' : GH), Mv [] g g' → OwnC e 1 g' c s' (List.replicate n z) → s'.n = n → K s' g'.h) :
    opK P .slice (Builtin.append_ #[sT, iT] rT #[.slice none 0 0, .int .i64 (n : Int)]) K g.h :=
  growNil_rule hsT hiT hi hzs hby hn hlen fun s' h' own hn' x hb => hK s' (g.to h' c) (GH.to_ext c x) ⟨own, fun b h1 => g.to_new _ _ _ (hb b h1)⟩ hn'

end

/-- A new object, stored whole at once. -/
theorem newStore_C (g : GH) (c : Nat) {cells cs : Array Value} {e : TypeId} {n : Nat} {K : Option Addr → Heap → Prop} (hn : cs.size = n) (hc : cells.size = n) (hv : ∀ v ∈ cs.toList, v.oneCell' = true)
    (H : ∀ (p : Nat) (g' : GH), Mv [] g g' → BlkC g' c p cs e → K (some ⟨p, 0, none⟩) g'.h) : newK g.h cells e (fun p h => storeAggK n h p cs (fun h' => K p h')) := by
  have hb : Blk (g.h.push (.cells cells e (0, 0))) g.h.size cells e := push_last _ _
  refine ⟨g.h.size, 0, cells, e, rfl, hb, hn, by omega, hv, ?_⟩
  have hcs : overA cells 0 cs.toList = cs := by rw [overA_all (by simp; omega)]
  rw [hcs]
  have x : Ext g.h (setBlk (g.h.push (.cells cells e (0, 0))) g.h.size cs e) := by
    refine ⟨by rw [setBlk_size]; simp, fun b hb' _ => ?_⟩
    rw [setBlk_other (by omega), Array.getElem?_push, if_neg (by omega)]
  exact H g.h.size (g.to _ c) (GH.to_ext c x) ⟨setBlk_self hb, g.to_new _ _ _ (Nat.le_refl _)⟩
end Go.Ev
