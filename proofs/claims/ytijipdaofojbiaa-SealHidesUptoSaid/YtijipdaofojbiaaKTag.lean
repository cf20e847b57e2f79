/-
  Tags: thirty-two bytes, as cells, as arguments, held against each other.
-/
import Derived.Test.YtijipdaofojbiaaKKit
import Derived.Test.YtijipdaofojbiaaFlat
import Derived.Test.YtijipdaofojbiaaBuild
set_option linter.unusedSimpArgs false
set_option linter.unusedVariables false
namespace Go.Proofs.Ytijipdaofojbiaa
open Go Go.Ev

/-- A byte's value. -/
def isByte (n : Int) : Prop := 0 ≤ n ∧ n ≤ 255
theorem zU8 : sizeOfT Try.prog T.uint8 = 1 := by kernel_rfl
theorem extract_all {a : Array Value} {n : Nat} (h : a.size = n) : a.extract 0 (0 + n) = a := by subst h; simp
/-- An array that is a result: stored whole, and loaded again. -/
theorem result_C {t : TypeId} {n : Nat} (hsz : sizeOfT Try.prog t = n) (hd : ∀ p : Option Addr, doesLoad Try.prog t (.pointer p) = .quietP fun h K => loadAggK (sizeOfT Try.prog t) h p fun cs => K (.agg cs)) {g : GH} {c p : Nat} {cells cs : Array Value} {e : TypeId} (hb : BlkC g c p cells e) (hn : cells.size = n) (hs : cs.size = n) (hone : ∀ v ∈ cs.toList, v.oneCell' = true) {K : Array Value → Heap → Prop}
    (H : ∀ g' : GH, Mv [c] g g' → K cs g'.h) : storeAggK (sizeOfT Try.prog t) g.h (some ⟨p, 0, none⟩) cs (fun h => quietK Try.prog .agg (Instr.loadAt t (.pointer (some ⟨p, 0, none⟩))) (fun r => K r h) h) := by
  refine storeAgg_C hb (by omega) (by omega) hone fun g1 m1 b1 => ?_
  have e1 : overA cells 0 cs.toList = cs := by rw [overA_all (by simp; omega)]
  rw [e1] at b1
  refine loadAt_agg (hd _) ?_
  rw [loadAggK_C b1]
  refine ⟨by omega, ?_⟩
  have : cs.extract 0 (0 + sizeOfT Try.prog t) = cs := by rw [hsz, ← hs]; simp
  rw [this]
  exact H g1 m1
/-- A tag's cells. -/
abbrev tagA (t : List Int) : Array Value := ⟨t.map byV⟩
theorem zTag : zerosOf Try.prog T.api_Tag = Array.replicate 32 (.int .u8 0) := by kernel_rfl
theorem szTag : sizeOfT Try.prog T.api_Tag = 32 := by kernel_rfl
theorem dTag (p : Option Addr) : doesLoad Try.prog T.api_Tag (.pointer p) = .quietP fun h K => loadAggK (sizeOfT Try.prog T.api_Tag) h p fun cs => K (.agg cs) := by kernel_rfl
theorem loadAgg_whole {g : GH} {c b n : Nat} {cells : Array Value} {e : TypeId} (hb : BlkC g c b cells e) (hn : n = cells.size) {K : Array Value → Prop} (hK : K cells) : loadAggK n g.h (some ⟨b, 0, none⟩) K := by
  rw [loadAggK_C hb]
  refine ⟨by omega, ?_⟩
  have : cells.extract 0 (0 + n) = cells := by subst hn; simp
  rw [this]; exact hK
theorem stillAgg_whole {g : GH} {c b n : Nat} {cells : Array Value} {e : TypeId} (hb : BlkC g c b cells e) (hn : n = cells.size) : stillAggK n g.h (some ⟨b, 0, none⟩) cells := loadAgg_whole hb hn rfl
theorem tagA_size {t : List Int} (h : t.length = 32) : sizeOfT Try.prog T.api_Tag = (tagA t).size := by rw [szTag]; simp [h]
/-- A whole block of bytes, as a slice. -/
theorem blkRd {g : GH} {c b n k : Nat} {t : List Int} {e : TypeId} (hb : BlkC g c b (tagA t) e) (hn : n = t.length) : RdC 1 g c ⟨some ⟨b, 0, none⟩, n, k⟩ (t.map byV) :=
  ⟨⟨by simp [hn], .inr ⟨b, 0, _, _, _, rfl, hb.blk, fun i hi => by simp⟩⟩, .inr ⟨b, rfl, lt_of_get hb.blk, hb.col⟩⟩
abbrev ShTag : Sh := .arr 32 (.int .u8)
theorem encTag (t : List Int) : Sh.enc ShTag t = t.map byV := by
  show t.flatMap (fun n => [Value.int .u8 n]) = t.map byV
  induction t with
  | nil => rfl
  | cons x t ih => rw [List.flatMap_cons, ih]; rfl
theorem okTag {t : List Int} (hl : t.length = 32) (hb : ∀ x ∈ t, isByte x) : Sh.ok ShTag t := ⟨hl, fun x hx => by have := hb x hx; unfold isByte at this; exact ⟨this.1, this.2⟩⟩
theorem tag_neq {x y : List Int} (hx : x.length = 32) (hxb : ∀ v ∈ x, isByte v) (hy : y.length = 32) (hyb : ∀ v ∈ y, isByte v) {ox oy : Operand} {K : Bool → Prop} (H : K (decide (¬ x = y))) : eqK Try.prog (binSem .neq T.api_Tag ox oy (.agg (tagA x)) (.agg (tagA y))) K := by
  have h := neqK_flat (P := Try.prog) ShTag (t := T.api_Tag) (m := 10) (by decide) (x := x) (y := y) (ox := ox) (oy := oy) rfl (by kernel_rfl) (by kernel_rfl) (by kernel_rfl) (by kernel_rfl) (by kernel_rfl) (okTag hx hxb) (okTag hy hyb) (K := K)
    (fun r hr => by
      have : r = decide (¬ x = y) := by cases r <;> simp_all
      rw [this]; exact H)
  rw [encTag, encTag] at h
  exact h

theorem convRd {t e : TypeId} (hu : Try.prog.underlying t = some (.slice e)) (he : Try.prog.underlying e = some (.int .u8)) {g : GH} {c : Nat} {s : Sl} {vs : List Value} (o : OwnC T.uint8 1 g c s vs) (hne : vs ≠ []) {K : Sl → Heap → Prop}
    (H : ∀ g' : GH, Mv [c] g g' → RdC 1 g' c s vs → (∀ (k : Nat) (s' : Sl) (vs' : List Value), RdC 1 g k s' vs' → RdC 1 g' k s' vs') → K s g'.h) : opK Try.prog .slice (convert t t (.slice s.a s.n s.c)) K g.h :=
  conv_C hu he o hne fun g' m h => H g' m (h 1 c s vs o.rd) fun k s' vs' => h 1 k s' vs'

end Go.Proofs.Ytijipdaofojbiaa
