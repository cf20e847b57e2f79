/-
  Two rows of entries held against each other: fork's Compare.
-/
import Derived.Test.YtgggpnjjkcfckaaGreatIter
import Derived.Test.YtgggpnjjkcfckaaGreatKEntries
set_option linter.unusedSimpArgs false
set_option linter.unusedVariables false
namespace Go.Proofs.YtgggpnjjkcfckaaGreat
open Go Go.Ev

/-- Where two rows part, or how long the shorter one is. -/
def partAt {α : Type} [DecidableEq α] : List α → List α → Nat
  | x :: xs, y :: ys => if x = y then partAt xs ys + 1 else 0
  | _, _ => 0
theorem partAt_le {α : Type} [DecidableEq α] : ∀ (xs ys : List α), partAt xs ys ≤ min xs.length ys.length
  | [], ys => by simp [partAt]
  | x :: xs, [] => by simp [partAt]
  | x :: xs, y :: ys => by
    have := partAt_le xs ys
    simp only [partAt, List.length_cons]
    split <;> omega
theorem partAt_take {α : Type} [DecidableEq α] : ∀ (xs ys : List α), xs.take (partAt xs ys) = ys.take (partAt xs ys)
  | [], ys => by simp [partAt]
  | x :: xs, [] => by simp [partAt]
  | x :: xs, y :: ys => by
    simp only [partAt]
    split
    · rename_i h; subst h; simp [partAt_take xs ys]
    · simp
theorem partAt_ne {α : Type} [DecidableEq α] : ∀ (xs ys : List α), partAt xs ys < min xs.length ys.length → xs[partAt xs ys]? ≠ ys[partAt xs ys]?
  | [], ys, h => by simp at h
  | x :: xs, [], h => by simp at h
  | x :: xs, y :: ys, h => by
    simp only [partAt] at h ⊢
    split
    · rename_i hx
      rw [if_pos hx] at h
      simp only [List.length_cons] at h
      simpa using partAt_ne xs ys (by omega)
    · rename_i hx; simpa using hx
/-- It is the one place up to which they are the same, and there they are not. -/
theorem partAt_eq {α : Type} [DecidableEq α] {xs ys : List α} {i : Nat} (h1 : xs.take i = ys.take i) (h2 : i ≤ min xs.length ys.length) (h3 : i < min xs.length ys.length → xs[i]? ≠ ys[i]?) : partAt xs ys = i := by
  rcases Nat.lt_trichotomy (partAt xs ys) i with h | h | h
  · exfalso
    refine partAt_ne xs ys (by omega) ?_
    rw [← List.getElem?_take_of_lt h, h1, List.getElem?_take_of_lt h]
  · exact h
  · exfalso
    have := partAt_le xs ys
    refine h3 (by omega) ?_
    have ht := partAt_take xs ys
    rw [← List.getElem?_take_of_lt h, ht, List.getElem?_take_of_lt h]

/-- How two rows stand, and where they part. -/
def compareT {α : Type} [DecidableEq α] (xs ys : List α) : Int × Nat :=
  if partAt xs ys < min xs.length ys.length then (4, partAt xs ys)
  else if xs.length < ys.length then (2, partAt xs ys)
  else if ys.length < xs.length then (3, partAt xs ys)
  else (1, partAt xs ys)

theorem szPair : sizeOfT Tryz.prog T.a2_api_Entry = 270 := by kernel_rfl
theorem zPairSize : (zerosOf Tryz.prog T.a2_api_Entry).size = 270 := by kernel_rfl
theorem szEnt : sizeOfT Tryz.prog T.api_Entry = 135 := by kernel_rfl

theorem buildPair {x y : EntryT} (hx : ShEntry.ok x) (hy : ShEntry.ok y) {K : Array Value → Prop} (H : K ⟨ShEntry.enc x ++ ShEntry.enc y⟩) : buildK Tryz.prog (Instr.build T.a2_api_Entry #[(0, .agg ⟨ShEntry.enc x⟩), (1, .agg ⟨ShEntry.enc y⟩)]) K := by
  refine ⟨_, build_two (P := Tryz.prog) (e := T.api_Entry) (sz := 135) (z := zerosOf Tryz.prog T.a2_api_Entry) (by kernel_rfl) (fun w => by kernel_rfl) (fun w => by kernel_rfl) zPairSize (by simpa using lenEntry hx) (by simpa using lenEntry hy), ?_⟩
  simpa using H

/-- The pairs of two rows, one by one, as long as they are asked for. I i: ahead of pair i; J i: it was the last that was asked for. -/
theorem both1_spec {g : GH} {c d kb kc pa pb l : Nat} {a b : Sl} {xs ys : List EntryT} {ta tb : TypeId} (ba : BlkC g kb pa #[slV a] ta) (bb : BlkC g kc pb #[slV b] tb) (ha : SlC g c ShEntry a xs) (hb : SlC g d ShEntry b ys)
    (K : List Nat) (hk1 : kb ∉ K) (hk2 : kc ∉ K) (hk3 : c ∉ K) (hk4 : d ∉ K) (I J : Nat → GH → Prop) (h0 : I 0 g) (keep : ∀ i q, I i q → Mv K g q)
    (round : ∀ (i : Nat) (hi : i < xs.length) (hj : i < ys.length) (q : GH), I i q → YC Tryz.prog l #[.int .i64 i, .agg ⟨ShEntry.enc xs[i] ++ ShEntry.enc ys[i]⟩] (fun v h' => ∃ q' : GH, h' = q'.h ∧ (v = .bool true ∧ I (i + 1) q' ∨ v = .bool false ∧ J i q')) q.h)
    {R : Value → Heap → Prop} (H : ∀ q : GH, (I (min xs.length ys.length) q ∨ ∃ i, i < min xs.length ys.length ∧ J i q) → R (.tuple #[]) q.h) :
    HC Tryz.prog F.fork_both_1 #[.func (.yield l) #[] #[], .pointer (some ⟨pa, 0, none⟩), .pointer (some ⟨pb, 0, none⟩)] R g.h := by
  refine fork_both_1.calls ?_
  unfold fork_both_1.body
  have hn := ha.len
  have hm := hb.len
  have hs1 := ha.small
  have hs2 := hb.small
  rw [loadK_C ba]
  refine ⟨a, rfl, ?_⟩
  rw [loadK_C bb]
  refine ⟨b, rfl, ?_⟩
  refine loopW_rule (fun st h' => ∃ (i : Nat) (q : GH), i ≤ min xs.length ys.length ∧ st = (i : Int) ∧ h' = q.h ∧ I i q) (fun st => min xs.length ys.length - st.toNat) ⟨0, g, by omega, rfl, rfl, h0⟩ ?_
  rintro X _ _ ⟨i, q, hi, rfl, rfl, hI⟩ hX
  have m := keep i q hI
  have hmin : (if (b.n : Int) < (a.n : Int) then (b.n : Int) else (a.n : Int)) = ((min xs.length ys.length : Nat) : Int) := by
    rw [hn, hm]; split <;> omega
  rw [hmin]
  by_cases hlt : i < min xs.length ys.length
  · rw [if_pos (by simpa using hlt)]
    have ba' := ba.mv m hk1
    have bb' := bb.mv m hk2
    rw [loadK_C ba']
    refine ⟨a, rfl, ?_⟩
    refine (ha.mv m hk3).idxF rfl szEnt (by decide) (show i < xs.length by omega) fun b1 o1 c1 ok1 l1 => loadF c1 szEnt (by decide) l1 ?_
    rw [loadK_C bb']
    refine ⟨b, rfl, ?_⟩
    refine (hb.mv m hk4).idxF rfl szEnt (by decide) (show i < ys.length by omega) fun b2 o2 c2 ok2 l2 => loadF c2 szEnt (by decide) l2 ?_
    refine buildPair ok1 ok2 (callV_yield ((round i (by omega) (by omega) q hI).mono ?_))
    rintro v h' ⟨q', rfl, ⟨rfl, hI'⟩ | ⟨rfl, hJ⟩⟩
    · refine ⟨true, rfl, ?_⟩
      rw [if_neg (by simp), wrapSucc (by omega)]
      exact hX _ _ ⟨i + 1, q', by omega, rfl, rfl, hI'⟩ (by simp; omega)
    · refine ⟨false, rfl, ?_⟩
      rw [if_pos (by simp)]
      exact H q' (.inr ⟨i, hlt, hJ⟩)
  · rw [if_neg (by simp; omega)]
    have : i = min xs.length ys.length := by omega
    subst this
    exact H q (.inl hI)

theorem isNaN_spec {x : Int} {h : Heap} {R : Value → Heap → Prop} (H : R (.bool false) h) : HC Tryz.prog F.cmp_isNaN_int #[.int .i64 x] R h := by
  refine cmp_isNaN_int.calls ?_
  unfold cmp_isNaN_int.body
  simpa using H
def cmpI (x y : Int) : Int := if x < y then -1 else if x > y then 1 else 0
theorem cmpCompare_spec {x y : Int} {h : Heap} {R : Value → Heap → Prop} (H : R (.int .i64 (cmpI x y)) h) : HC Tryz.prog F.cmp_Compare_int #[.int .i64 x, .int .i64 y] R h := by
  refine cmp_Compare_int.calls ?_
  unfold cmp_Compare_int.body
  refine isNaN_spec ⟨_, rfl, isNaN_spec ⟨_, rfl, ?_⟩⟩
  dsimp only
  rw [if_neg (by simp), if_neg (by simp)]
  unfold cmpI at H
  split at H
  · rename_i h1
    rw [if_pos (by simpa using h1)]
    exact H
  · rename_i h1
    rw [if_neg (by simpa using h1)]
    split at H
    · rename_i h2
      rw [if_pos (by simpa using h2)]
      exact H
    · rename_i h2
      rw [if_neg (by simpa using h2)]
      exact H

theorem both_spec (g : GH) (c : Nat) (a b : Sl) {R : Value → Heap → Prop}
    (H : ∀ (pa pb : Nat) (g' : GH), Mv [] g g' → BlkC g' c pa #[slV a] T.sl_api_Entry → BlkC g' c pb #[slV b] T.sl_api_Entry → R (.func (.func F.fork_both_1) #[] #[.pointer (some ⟨pa, 0, none⟩), .pointer (some ⟨pb, 0, none⟩)]) g'.h) :
    HC Tryz.prog F.fork_both #[.slice a.a a.n a.c, .slice b.a b.n b.c] R g.h := by
  refine fork_both.calls (a0 := a) (b1 := b) ?_
  unfold fork_both.body
  refine new_C g c fun pa q1 m1 b1 => ?_
  refine new_C q1 c fun pb q2 m2 b2 => ?_
  exact H pa pb q2 ((m1.trans m2).mono (by simp)) (b1.mv m2 (by simp)) b2

theorem build3 (w : World) : (Instr.build T.a3_fork_Kind #[(0, .int .i64 2), (1, .int .i64 1), (2, .int .i64 3)]).run Tryz.prog w = .ok (.agg #[.int .i64 2, .int .i64 1, .int .i64 3]) w := by kernel_rfl

theorem kindAt (p : Option Addr) : doesLoad Tryz.prog T.fork_Kind (.pointer p) = .quietP fun h K => loadK (.int .i64) h p fun x => K (.int .i64 x) := by kernel_rfl
theorem intAt (p : Option Addr) : doesLoad Tryz.prog T.int (.pointer p) = .quietP fun h K => loadK (.int .i64) h p fun x => K (.int .i64 x) := by kernel_rfl

theorem compare_spec {g : GH} {c d : Nat} {a b : Sl} {xs ys : List EntryT} (ha : SlC g c ShEntry a xs) (hb : SlC g d ShEntry b ys) {R : Value → Heap → Prop}
    (H : ∀ g' : GH, Mv [] g g' → R (.tuple #[.int .i64 (compareT xs ys).1, .int .i64 (compareT xs ys).2]) g'.h) : HC Tryz.prog F.fork_Compare #[.slice a.a a.n a.c, .slice b.a b.n b.c] R g.h := by
  refine fork_Compare.calls (a0 := a) (b1 := b) ?_
  unfold fork_Compare.body
  have hn := ha.len
  have hm := hb.len
  have hs1 := ha.small
  have hs2 := hb.small
  have zk : zerosOf Tryz.prog T.fork_Kind = #[.int .i64 0] := by kernel_rfl
  have za : zerosOf Tryz.prog T.int = #[.int .i64 0] := by kernel_rfl
  rw [zk, za]
  refine new_C g.base 1 fun pk q1 m1 b1 => ?_
  refine new_C q1 2 fun pt q2 m2 b2 => ?_
  have m : Mv [1, 2, 3, 4, 5, 6] g.base q2 := (m1.trans m2).mono (by simp)
  replace b1 := b1.mv m2 (by simp)
  refine both_spec q2 3 a b fun pa pb q3 m3 ba bb => ⟨_, rfl, ?_⟩
  replace m := m.step m3 (by simp)
  replace b1 := b1.mv m3 (by simp)
  replace b2 := b2.mv m3 (by simp)
  dsimp only
  refine rangeK_C q3 4 5 fun rec l q4 m4 ol od hY => ?_
  replace m := m.step m4 (by simp)
  replace b1 := b1.mv m4 (by simp)
  replace b2 := b2.mv m4 (by simp)
  replace ba := ba.mv m4 (by simp)
  replace bb := bb.mv m4 (by simp)
  have ha' : SlC q4 0 ShEntry a xs := ha.arg m (by simp)
  have hb' : SlC q4 0 ShEntry b ys := hb.arg m (by simp)
  show HC Tryz.prog F.fork_both_1 #[.func (.yield l) #[] #[], .pointer (some ⟨pa, 0, none⟩), .pointer (some ⟨pb, 0, none⟩)] _ q4.h
  -- what the end tells
  have fin : ∀ (q : GH) (k : Int) (n : Nat), Mv [1, 2, 3, 4, 5, 6] g.base q → BlkC q 1 pk #[.int .i64 k] T.fork_Kind → BlkC q 2 pt #[.int .i64 n] T.int → ObjC q 5 q3.h.size (.deferred (some [])) → compareT xs ys = (k, n) →
      leaveK (some q3.h.size) q.h (fun h => quietK Tryz.prog (.int .i64) (Instr.loadAt T.fork_Kind (.pointer (some ⟨pk, 0, none⟩))) (fun r => quietK Tryz.prog (.int .i64) (Instr.loadAt T.int (.pointer (some ⟨pt, 0, none⟩))) (fun r' => R (.tuple #[.int .i64 r, .int .i64 r']) h) h) h) := by
    intro q k n m b1 b2 od he
    refine leaveK_C od fun q' m' => ?_
    refine loadAt_int (kindAt _) ?_
    rw [loadK_C (b1.mv m' (by simp))]
    refine ⟨k, rfl, ?_⟩
    refine loadAt_int (intAt _) ?_
    rw [loadK_C (b2.mv m' (by simp))]
    refine ⟨n, rfl, ?_⟩
    have := H (g.via q' fun _ => 0) ((m.step m' (by simp)).via (by simp) _)
    rw [he] at this
    exact this
  refine both1_spec ba bb ha' hb' [1, 2, 4, 6] (by simp) (by simp) (by simp) (by simp)
    (fun i q => Mv [1, 2, 4, 6] q4 q ∧ BlkC q 1 pk #[.int .i64 0] T.fork_Kind ∧ BlkC q 2 pt #[.int .i64 0] T.int ∧ ObjC q 4 l (loopObj rec .ready none) ∧ ObjC q 5 q3.h.size (.deferred (some [])) ∧ xs.take i = ys.take i)
    (fun i q => Mv [1, 2, 4, 6] q4 q ∧ BlkC q 1 pk #[.int .i64 4] T.fork_Kind ∧ BlkC q 2 pt #[.int .i64 i] T.int ∧ ObjC q 4 l (loopObj rec .done (some .ret)) ∧ ObjC q 5 q3.h.size (.deferred (some [])) ∧ xs.take i = ys.take i ∧ xs[i]? ≠ ys[i]?)
    ⟨Mv.refl _ _, b1, b2, ol, od, rfl⟩ (fun i q h => h.1) ?_ ?_
  · -- a round
    rintro i hi hj q ⟨mq, k1, k2, ol, od, ht⟩
    have okx := (ha.rdF rfl).2 xs[i] (List.getElem_mem hi)
    have oky := (hb.rdF rfl).2 ys[i] (List.getElem_mem hj)
    refine hY ((i : Int), ⟨ShEntry.enc xs[i] ++ ShEntry.enc ys[i]⟩) _ q ol ?_
    dsimp only
    have l1 := lenEntry okx
    have l2 := lenEntry oky
    refine new_C q 6 fun pp q5 m5 b5 => ?_
    refine storeAgg_C b5 (by rw [szPair]; simp [l1, l2]) (by rw [szPair, zPairSize]; omega) (fun v hv => by
      simp only [List.mem_append] at hv
      rcases hv with hv | hv
      · exact Sh.enc_one (s := ShEntry) rfl v hv
      · exact Sh.enc_one (s := ShEntry) rfl v hv) fun q6 m6 b6 => ?_
    rw [overA_all (by rw [zPairSize]; simp [l1, l2])] at b6
    have m56 : Mv [1, 2, 4, 6] q q6 := (m5.trans m6).mono (by simp)
    refine begK_C ((ol.mv m5 (by simp)).mv m6 (by simp)) fun q7 m7 ol7 => ?_
    have m57 := m56.step m7 (by simp)
    have c7 : CellsC q7 6 pp 0 (ShEntry.enc xs[i] ++ ShEntry.enc ys[i]) := blkCells (b6.mv m7 (by simp))
    have cA : CellsC q7 6 pp 0 (ShEntry.enc xs[i]) := cellsFst c7
    have cB : CellsC q7 6 pp (0 + 135) (ShEntry.enc ys[i]) := cellsSnd c7 l1
    have k1' := ((k1.mv m5 (by simp)).mv m6 (by simp)).mv m7 (by simp)
    have k2' := ((k2.mv m5 (by simp)).mv m6 (by simp)).mv m7 (by simp)
    have od' := ((od.mv m5 (by simp)).mv m6 (by simp)).mv m7 (by simp)
    rw [idxArrK_some (by omega) (by omega)]
    refine loadF (s := ShEntry) (x := xs[i]) (cellsTo cA (by rw [szEnt]; rfl)) szEnt (by decide) l1 ?_
    rw [idxArrK_some (by omega) (by omega)]
    refine loadF (s := ShEntry) (x := ys[i]) (cellsTo cB (by rw [szEnt]; rfl)) szEnt (by decide) l2 ?_
    refine neqF_Entry okx oky fun r hr => ?_
    by_cases hx : xs[i] = ys[i]
    · have : r = false := by cases r <;> simp_all
      subst this
      rw [if_neg (by simp)]
      refine endK_on ol7 fun q8 m8 ol8 => ⟨q8, rfl, .inl ⟨rfl, (mq.step m57 (by simp)).step m8 (by simp), k1'.mv m8 (by simp), k2'.mv m8 (by simp), ol8, od'.mv m8 (by simp), ?_⟩⟩
      rw [List.take_succ_eq_append_getElem hi, List.take_succ_eq_append_getElem hj, ht, hx]
    · have : r = true := hr.2 hx
      subst this
      rw [if_pos rfl]
      refine store_C k1' (by simp) rfl fun q8 m8 k18 => ?_
      refine store_C (k2'.mv m8 (by simp)) (by simp) rfl fun q9 m9 k29 => ?_
      refine endK_ret ((ol7.mv m8 (by simp)).mv m9 (by simp)) fun q10 m10 ol10 => ⟨q10, rfl, .inr ⟨rfl, (((mq.step m57 (by simp)).step m8 (by simp)).step m9 (by simp)).step m10 (by simp), ?_, ?_, ol10, ((od'.mv m8 (by simp)).mv m9 (by simp)).mv m10 (by simp), ht, ?_⟩⟩
      · exact (k18.mv m9 (by simp)).mv m10 (by simp)
      · exact k29.mv m10 (by simp)
      · rw [List.getElem?_eq_getElem hi, List.getElem?_eq_getElem hj]; simpa using hx
  · -- the end
    rintro q (⟨mq, k1, k2, ol, od, ht⟩ | ⟨i, hi, mq, k1, k2, ol, od, ht, hne⟩)
    · have hp : partAt xs ys = min xs.length ys.length := partAt_eq ht (Nat.le_refl _) fun h => absurd h (by omega)
      refine ⟨(), rfl, .inl ⟨q, rfl, ol, fun q' m' => ?_⟩⟩
      refine ⟨_, build3, ?_⟩
      refine cmpCompare_spec ⟨_, rfl, ?_⟩
      have hw : IntKind.i64.wrap (cmpI (a.n : Int) (b.n : Int) + 1) = cmpI (a.n : Int) (b.n : Int) + 1 := wrapI64 (by unfold cmpI; split <;> (try split) <;> omega) (by unfold cmpI; split <;> (try split) <;> omega)
      dsimp only
      rw [hw]
      have k1' := k1.mv m' (by simp)
      have k2' := k2.mv m' (by simp)
      have hmin : (if (b.n : Int) < (a.n : Int) then (b.n : Int) else (a.n : Int)) = ((min xs.length ys.length : Nat) : Int) := by
        rw [hn, hm]; split <;> omega
      rw [hmin]
      have hsz : sizeOfT Tryz.prog T.fork_Kind = 1 := by kernel_rfl
      obtain ⟨k, hk, hx⟩ : ∃ k : Int, compareT xs ys = (k, min xs.length ys.length) ∧ (#[.int .i64 2, .int .i64 1, .int .i64 3] : Array Value)[(cmpI (a.n : Int) (b.n : Int) + 1).toNat * sizeOfT Tryz.prog T.fork_Kind]? = some (.int .i64 k) := by
        rcases Nat.lt_trichotomy xs.length ys.length with h | h | h
        · refine ⟨2, by unfold compareT; rw [hp, if_neg (by omega), if_pos h], ?_⟩
          rw [hsz]; unfold cmpI; rw [if_pos (by omega)]; rfl
        · refine ⟨1, by unfold compareT; rw [hp, if_neg (by omega), if_neg (by omega), if_neg (by omega)], ?_⟩
          rw [hsz]; unfold cmpI; rw [if_neg (by omega), if_neg (by omega)]; rfl
        · refine ⟨3, by unfold compareT; rw [hp, if_neg (by omega), if_neg (by omega), if_pos h], ?_⟩
          rw [hsz]; unfold cmpI; rw [if_neg (by omega), if_pos (by omega)]; rfl
      refine ⟨⟨by unfold cmpI; split <;> (try split) <;> omega, by unfold cmpI; split <;> (try split) <;> omega⟩, k, hx, ?_⟩
      refine store_C k1' (by simp) rfl fun q8 m8 k18 => ?_
      refine store_C (k2'.mv m8 (by simp)) (by simp) rfl fun q9 m9 k29 => ?_
      exact fin q9 k _ ((((m.step mq (by simp)).step m' (by simp)).step m8 (by simp)).step m9 (by simp)) (k18.mv m9 (by simp)) k29 (((od.mv m' (by simp)).mv m8 (by simp)).mv m9 (by simp)) hk
    · have hp : partAt xs ys = i := partAt_eq ht (by omega) fun _ => hne
      refine ⟨(), rfl, .inr ⟨q, rfl, ol, fun q' m' => ?_⟩⟩
      exact fin q' 4 i ((m.step mq (by simp)).step m' (by simp)) (k1.mv m' (by simp)) (k2.mv m' (by simp)) (od.mv m' (by simp)) (by unfold compareT; rw [hp, if_pos hi])

end Go.Proofs.YtgggpnjjkcfckaaGreat
