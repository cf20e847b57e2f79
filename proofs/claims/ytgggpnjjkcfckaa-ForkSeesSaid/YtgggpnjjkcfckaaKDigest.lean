/-
  The package digest: contracts of its functions.
-/
import Derived.Test.YtgggpnjjkcfckaaKSha
import Derived.Test.YtgggpnjjkcfckaaLay
import Derived.Test.YtgggpnjjkcfckaaKTag
set_option linter.unusedSimpArgs false
set_option linter.unusedVariables false
namespace Go.Proofs.Ytgggpnjjkcfckaa
open Go Go.Ev

theorem zU32 : sizeOfT Try.prog T.uint32 = 1 := by kernel_rfl
/-- Eight words, and what stands behind them. -/
def sCells (s : S8) (rest : List Value) : Array Value := ⟨wv s.a :: wv s.b :: wv s.c :: wv s.d :: wv s.e :: wv s.f :: wv s.g :: wv s.i :: rest⟩

theorem oneW (ws : List (BitVec 32)) : ∀ v ∈ ws.map wv, v.oneCell' = true := by intro v hv; obtain ⟨_, _, rfl⟩ := List.mem_map.1 hv; rfl

theorem wordsOf64 (bs : List Int) (h : bs.length = 64) : (wordsOf bs).length = 16 := by rw [wordsOf_length]; omega

theorem roundsS_succ (w : List (BitVec 32)) (v : S8) (n : Nat) (hw : n < w.length) (hk : n < constK.length) : roundsS w v (n + 1) = stepS (roundsS w v n) (w[n]'hw) (constK[n]'hk) := by
  rw [roundsS]; simp [List.getD, List.getElem?_eq_getElem hw, List.getElem?_eq_getElem hk]

/-- The words so far, and noughts behind them. -/
def wCells (ws : List (BitVec 32)) : Array Value := ⟨ws.map wv ++ List.replicate (64 - ws.length) (.int .u32 0)⟩
theorem wCells_size (ws : List (BitVec 32)) (h : ws.length ≤ 64) : (wCells ws).size = 64 := by simp [wCells]; omega
theorem wCells_get (ws : List (BitVec 32)) (i : Nat) (h : i < ws.length) : (wCells ws)[i]? = some (Kd.inj (.int .u32) ((ws.getD i 0).toNat : Int)) := by
  simp only [wCells, List.getElem?_toArray]
  rw [List.getElem?_append_left (by simpa using h), List.getElem?_map, List.getElem?_eq_getElem h, List.getD, List.getElem?_eq_getElem h]; rfl
theorem wCells_set (ws : List (BitVec 32)) (x : BitVec 32) (h : ws.length < 64) : (wCells ws).setIfInBounds ws.length (wv x) = wCells (ws ++ [x]) := by
  unfold wCells
  rw [List.setIfInBounds_toArray, List.set_append_right _ _ (by simp), List.length_map, Nat.sub_self]
  obtain ⟨k, hk⟩ : ∃ k, 64 - ws.length = k + 1 := ⟨64 - ws.length - 1, by omega⟩
  rw [hk, List.replicate_succ, List.set_cons_zero, List.map_append, List.length_append, List.length_cons, List.length_nil, show 64 - (ws.length + (0 + 1)) = k from by omega]
  simp

/-! ### The hasher -/

abbrev hRest (l : Sl) (n : Nat) : List Value := [.slice l.a l.n l.c, .int .i64 n, .bool true]
theorem len8_eq (n : Nat) : len8 n = be4 (BitVec.ofNat 32 (n / 4294967296)) ++ be4 (BitVec.ofNat 32 n) := by
  unfold len8 be4
  simp only [List.range_succ, List.range_zero, List.nil_append, List.cons_append, List.map_append, List.map_cons, List.map_nil, BitVec.toNat_ofNat, Nat.reducePow, Nat.reduceSub, List.cons.injEq, and_true]
  refine ⟨?_, ?_, ?_, ?_, ?_, ?_, ?_, ?_⟩ <;> omega

theorem ofNatW (x : Nat) : IntKind.u32.wrap (x : Int) = ((BitVec.ofNat 32 x).toNat : Int) := by
  rw [wrapU32_mod, BitVec.toNat_ofNat]; simp only [Nat.reducePow]; omega

/-- Memory that reads words. -/
theorem sCells_rd {g : GH} {c p : Nat} {s : S8} {rest : List Value} {e : TypeId} (hb : BlkC g c p (sCells s rest) e) (k : Nat) : Rd 1 g.h ⟨some ⟨p, 0, none⟩, 8, k⟩ (s.list.map wv) := ⟨rfl, .inr ⟨p, 0, _, _, _, rfl, hb.blk, fun i hi => by
  have h8 : i < 8 := by simpa [S8.list] using hi
  simp only [Nat.zero_add]
  rcases i with _ | _ | _ | _ | _ | _ | _ | _ | i <;> first | rfl | omega⟩⟩


end Go.Proofs.Ytgggpnjjkcfckaa
