/-
  Coins.
-/
import Derived.Test.YtafjmdeldejonaaGreatKCommit
set_option linter.unusedSimpArgs false
set_option linter.unusedVariables false
namespace Go.Proofs.YtafjmdeldejonaaGreat
open Go Go.Ev

def someT (real : Bool) (asked : List ShThing.T) (is : Bool) (nonce : List Int) (rows : List (List Int)) : List Int × Int × List ShThing.T :=
  if is = true then coverT real asked nonce rows else (zero32, 2, asked)
theorem zero32_tag : zero32.length = 32 ∧ ∀ x ∈ zero32, isByte x := ⟨by simp [zero32], by simp [zero32, isByte]⟩
theorem someT_tag (real : Bool) (asked : List ShThing.T) (is : Bool) (nonce : List Int) (rows : List (List Int)) : (someT real asked is nonce rows).1.length = 32 ∧ ∀ x ∈ (someT real asked is nonce rows).1, isByte x := by
  unfold someT
  split
  · exact coverT_tag _ _ _ _
  · exact zero32_tag

set_option maxHeartbeats 1000000 in
theorem some_spec {g : GH} {c k p d : Nat} (hck : ¬ c = k) {real : Bool} {seed : List Int} {asked : List ShThing.T} (x : MakC g c k p real seed asked) (is : Bool) (nonce : List Int) (okn : ShTag.ok nonce) (v : Sl) (rows : List (List Int)) (hr : RowsC g d v rows) (hby : ∀ xs ∈ rows, ∀ x ∈ xs, isByte x) (hxl : ∀ x ∈ rows, x.length ≤ 90000000) (hl : rows.length ≤ 1000000000) {R : Value → Heap → Prop}
    (H : ∀ g' : GH, Mv [k] g g' → MakC g' c k p real seed (someT real asked is nonce rows).2.2 → R (.tuple #[.agg (tagA (someT real asked is nonce rows).1), .int .i64 (someT real asked is nonce rows).2.1]) g'.h) :
    HC Tryz.prog F.commit_some #[.pointer (some ⟨p, 0, none⟩), .bool is, .agg (tagA nonce), .slice v.a v.n v.c] R g.h := by
  refine commit_some.calls (rows3 := v) ?_
  unfold commit_some.body
  have htb := okTagB okn
  obtain ⟨y1, hy1, n1⟩ := fresh_exists g [c, k, d]
  obtain ⟨y2, hy2, n2⟩ := fresh_exists g [c, k, d, y1]
  simp only [List.mem_cons, List.mem_nil_iff, or_false, not_or] at n1 n2
  have m := Mv.refl [k, y1, y2] g
  refine new_C g y1 fun pn q1 e1 bn => ?_
  replace m := m.step e1 (by simp)
  replace x := x.mv e1 (by simp) (by simp)
  replace hr := hr.mv e1 (by simp)
  rw [zTag]
  refine new_C q1 y2 fun pt q2 e2 bt => ?_
  replace m := m.step e2 (by simp)
  replace x := x.mv e2 (by simp) (by simp)
  replace hr := hr.mv e2 (by simp)
  replace bn := bn.mv e2 (by simp)
  refine makCopy_spec x y1 y1 fun p' q3 e3 _ => ⟨_, rfl, ?_⟩
  replace m := m.step e3 (by simp)
  replace x := x.mv e3 (by simp) (by simp)
  replace hr := hr.mv e3 (by simp)
  replace bn := bn.mv e3 (by simp)
  replace bt := bt.mv e3 (by simp)
  try dsimp only
  rw [if_neg (by simp)]
  have hre : ∀ j ∈ [k, y1, y2], j ∈ [k] ∨ Fresh g j := by
    intro j hj
    simp only [List.mem_cons, List.mem_nil_iff, or_false] at hj
    rcases hj with rfl | rfl | rfl
    · exact .inl (by simp)
    · exact .inr hy1
    · exact .inr hy2
  cases is with
  | false =>
    rw [if_pos (by rfl)]
    have bt' : BlkC q3 y2 pt (tagA zero32) T.api_Tag := bt
    refine loadAgg_whole bt' (tagA_size zero32_tag.1) ?_
    refine result_C (n := 32) szTag dTag bt' (by simp [zero32]) (by simp [zero32]) (fun v hv => oneBy _ v hv) fun q10 e10 => ?_
    have M := m.step e10 (by simp)
    exact H (g.via q10 id) (M.re id hre) ((x.mv e10 (by simp [Ne.symm n2.1]) (by simp [Ne.symm n2.2.1])).re (φ := id) M (.inl rfl) (.inl rfl))
  | true =>
    rw [if_neg (by simp)]
    refine loadAgg_whole bn (tagA_size htb.1) ?_
    refine cover_spec hck x nonce okn v rows hr hby hxl hl fun q9 e9 x9 => ⟨(_, _), rfl, ?_⟩
    replace m := m.step e9 (by simp)
    try dsimp only
    refine result_C (n := 32) szTag dTag (bt.mv e9 (by simp [n2.2.1])) (by simp) (by simp [(coverT_tag _ _ _ _).1]) (fun v hv => oneBy _ v hv) fun q10 e10 => ?_
    have M := m.step e10 (by simp)
    exact H (g.via q10 id) (M.re id hre) ((x9.mv e10 (by simp [Ne.symm n2.1]) (by simp [Ne.symm n2.2.1])).re (φ := id) M (.inl rfl) (.inl rfl))

def bitT (n : Int) : Bool := n == 0 || n == 1
theorem coinBit_spec {n : Int} {h : Heap} {R : Value → Heap → Prop} (H : R (.bool (bitT n)) h) : HC Tryz.prog F.commit_bit #[.int .i64 n] R h := by
  refine commit_bit.calls ?_
  unfold commit_bit.body
  unfold bitT at H
  by_cases h0 : (n == 0) = true
  · rw [if_pos h0]; rw [h0, Bool.true_or] at H; exact H
  · rw [if_neg h0]
    have : (n == 0) = false := by simpa using h0
    rw [this, Bool.false_or] at H; exact H

def coinB : List Int := [99, 111, 105, 110]
def coinRows (game : List Int) (player side : Int) : List (List Int) := [coinB, game, [IntKind.u8.wrap player], [IntKind.u8.wrap side]]
def coinT (real : Bool) (asked : List ShThing.T) (game : List Int) (player side : Int) (nonce : List Int) : List Int × Int × List ShThing.T := someT real asked (bitT player && bitT side) nonce (coinRows game player side)

set_option maxHeartbeats 40000000 in
set_option maxRecDepth 100000 in
theorem coin_spec {g : GH} {c k p : Nat} (hck : ¬ c = k) {real : Bool} {seed : List Int} {asked : List ShThing.T} (x : MakC g c k p real seed asked) (game : List Int) (okg : ShTag.ok game) (player side : Int) (nonce : List Int) (okn : ShTag.ok nonce) {R : Value → Heap → Prop}
    (H : ∀ g' : GH, Mv [k] g g' → MakC g' c k p real seed (coinT real asked game player side nonce).2.2 → R (.tuple #[.agg (tagA (coinT real asked game player side nonce).1), .int .i64 (coinT real asked game player side nonce).2.1]) g'.h) :
    HC Tryz.prog F.commit_Coin #[.pointer (some ⟨p, 0, none⟩), .agg (tagA game), .int .i64 player, .int .i64 side, .agg (tagA nonce)] R g.h := by
  refine commit_Coin.calls ?_
  unfold commit_Coin.body
  have htb := okTagB okn
  have hgb := okTagB okg
  obtain ⟨y2, hy2, n2⟩ := fresh_exists g [c, k]
  obtain ⟨y3, hy3, n3⟩ := fresh_exists g [c, k, y2]
  obtain ⟨y4, hy4, n4⟩ := fresh_exists g [c, k, y2, y3]
  simp only [List.mem_cons, List.mem_nil_iff, or_false, not_or] at n2 n3 n4
  have m := Mv.refl [k, y2, y3, y4] g
  refine new_C g y4 fun pg q1 e1 bg => ?_
  replace m := m.step e1 (by simp)
  replace x := x.mv e1 (by simp) (by simp)
  refine new_C q1 y2 fun pn q2 e2 bn => ?_
  replace m := m.step e2 (by simp)
  replace x := x.mv e2 (by simp) (by simp)
  replace bg := bg.mv e2 (by simp)
  rw [zTag]
  refine new_C q2 y3 fun pv q3 e3 bv => ?_
  replace m := m.step e3 (by simp)
  replace x := x.mv e3 (by simp) (by simp)
  replace bg := bg.mv e3 (by simp)
  replace bn := bn.mv e3 (by simp)
  refine sliceArr_C 0 32 rfl rfl (by decide) ?_
  refine loadAgg_whole bn (tagA_size htb.1) ?_
  have rg : RdC 1 q3 y4 ⟨some ⟨pg, 0 + 0 * sizeOfT Tryz.prog T.uint8, none⟩, 32 - 0, 32 - 0⟩ (game.map byV) := by
    refine ⟨⟨by simp [hgb.1], .inr ⟨pg, 0, _, _, _, by simp, bg.blk, fun i hi => ?_⟩⟩, .inr ⟨pg, rfl, lt_of_get bg.blk, bg.col⟩⟩
    simp
  generalize hsg : (⟨some ⟨pg, 0 + 0 * sizeOfT Tryz.prog T.uint8, none⟩, 32 - 0, 32 - 0⟩ : Sl) = sg at rg
  have hsgc : sg.n ≤ sg.c := by rw [← hsg]; exact Nat.le_refl _
  clear hsg
  have hre : ∀ j ∈ [k, y2, y3, y4], j ∈ [k] ∨ Fresh g j := by
    intro j hj
    simp only [List.mem_cons, List.mem_nil_iff, or_false] at hj
    rcases hj with rfl | rfl | rfl | rfl
    · exact .inl (by simp)
    · exact .inr hy2
    · exact .inr hy3
    · exact .inr hy4
  obtain ⟨S, hS⟩ : ∃ S : Option (Sl × Bool) → Option Sl → Option Sl → GH → Prop, ∀ oc op os q, S oc op os q ↔ (Mv [k, y2, y3, y4] g q ∧ MakC q c k p real seed asked ∧ BlkC q y2 pn (tagA nonce) T.api_Tag ∧ BlkC q y3 pv (Array.replicate 32 (.int .u8 0)) T.api_Tag ∧ RdC 1 q y4 sg (game.map byV) ∧
      (∀ s, oc = some (s, false) → OwnC T.uint8 1 q y4 s (coinB.map byV)) ∧ (∀ s, oc = some (s, true) → RdC 1 q y4 s (coinB.map byV) ∧ s.n ≤ s.c) ∧
      (∀ s, op = some s → RdC 1 q y4 s ([IntKind.u8.wrap player].map byV) ∧ s.n ≤ s.c) ∧ (∀ s, os = some s → RdC 1 q y4 s ([IntKind.u8.wrap side].map byV) ∧ s.n ≤ s.c)) := ⟨fun oc op os q => _, fun _ _ _ _ => Iff.rfl⟩
  have sC1 : ∀ {q : GH} {op os : Option Sl} {K : Sl → Heap → Prop}, S none op os q → (∀ (s : Sl) (q' : GH), S (some (s, false)) op os q' → K s q'.h) → newSlK q.h 4 #[(.int .u8 99), (.int .u8 111), (.int .u8 105), (.int .u8 110)] T.uint8 K := by
    intro q op os K s h
    obtain ⟨m, x, bn, bv, rg, f1, f2, f3, f4⟩ := (hS _ _ _ _).1 s
    refine newSl_C q y4 rfl fun s' q' e o hn hc => h s' q' ((hS _ _ _ _).2 ⟨m.step e (by simp), x.mv e (by simp) (by simp), bn.mv e (by simp), bv.mv e (by simp), rg.mv e (by simp), fun s h => ?_, fun s h => ?_, fun s h => ⟨(f3 s h).1.mv e (by simp), (f3 s h).2⟩, fun s h => ⟨(f4 s h).1.mv e (by simp), (f4 s h).2⟩⟩)
    · cases h; exact o
    · cases h
  have sC2 : ∀ {q : GH} {op os : Option Sl} {sc : Sl} {K : Sl → Heap → Prop}, S (some (sc, false)) op os q → (∀ (q' : GH), S (some (sc, true)) op os q' → K sc q'.h) → opK Tryz.prog .slice (convert T.sl_uint8 T.sl_uint8 (.slice sc.a sc.n sc.c)) K q.h := by
    intro q op os sc K s h
    obtain ⟨m, x, bn, bv, rg, f1, f2, f3, f4⟩ := (hS _ _ _ _).1 s
    have o := f1 sc rfl
    refine convRd (e := T.uint8) (by kernel_rfl) (by kernel_rfl) o (by simp [coinB]) fun q' e r k4 => h q' ((hS _ _ _ _).2 ⟨m.step e (by simp), x.mv e (by simp [Ne.symm n4.1]) (by simp [Ne.symm n4.2.1]), bn.mv e (by simp [Ne.symm n4.2.2.1]), bv.mv e (by simp [Ne.symm n4.2.2.2]), k4 _ _ _ rg, fun s h => ?_, fun s h => ?_, fun s h => ⟨k4 _ _ _ (f3 s h).1, (f3 s h).2⟩, fun s h => ⟨k4 _ _ _ (f4 s h).1, (f4 s h).2⟩⟩)
    · cases h
    · cases h; exact ⟨r, o.cap⟩
  have sP : ∀ {q : GH} {oc : Option (Sl × Bool)} {os : Option Sl} {K : Sl → Heap → Prop}, S oc none os q → (∀ (s : Sl) (q' : GH), S oc (some s) os q' → K s q'.h) → newSlK q.h 1 #[(.int .u8 (IntKind.u8.wrap player))] T.uint8 K := by
    intro q oc os K s h
    obtain ⟨m, x, bn, bv, rg, f1, f2, f3, f4⟩ := (hS _ _ _ _).1 s
    refine newSl_C q y4 rfl fun s' q' e o hn hc => h s' q' ((hS _ _ _ _).2 ⟨m.step e (by simp), x.mv e (by simp) (by simp), bn.mv e (by simp), bv.mv e (by simp), rg.mv e (by simp), fun s h => (f1 s h).mv e (by simp), fun s h => ⟨(f2 s h).1.mv e (by simp), (f2 s h).2⟩, fun s h => ?_, fun s h => ⟨(f4 s h).1.mv e (by simp), (f4 s h).2⟩⟩)
    cases h; exact ⟨o.rd, o.cap⟩
  have sS : ∀ {q : GH} {oc : Option (Sl × Bool)} {op : Option Sl} {K : Sl → Heap → Prop}, S oc op none q → (∀ (s : Sl) (q' : GH), S oc op (some s) q' → K s q'.h) → newSlK q.h 1 #[(.int .u8 (IntKind.u8.wrap side))] T.uint8 K := by
    intro q oc op K s h
    obtain ⟨m, x, bn, bv, rg, f1, f2, f3, f4⟩ := (hS _ _ _ _).1 s
    refine newSl_C q y4 rfl fun s' q' e o hn hc => h s' q' ((hS _ _ _ _).2 ⟨m.step e (by simp), x.mv e (by simp) (by simp), bn.mv e (by simp), bv.mv e (by simp), rg.mv e (by simp), fun s h => (f1 s h).mv e (by simp), fun s h => ⟨(f2 s h).1.mv e (by simp), (f2 s h).2⟩, fun s h => ⟨(f3 s h).1.mv e (by simp), (f3 s h).2⟩, fun s h => ?_⟩)
    cases h; exact ⟨o.rd, o.cap⟩
  have stl : ∀ {q : GH} {oc : Option (Sl × Bool)} {op os : Option Sl}, S oc op os q → stillAggK (sizeOfT Tryz.prog T.api_Tag) q.h (some ⟨pn, 0, none⟩) (tagA nonce) := by
    intro q oc op os s
    obtain ⟨m, x, bn, bv, rg, f1, f2, f3, f4⟩ := (hS _ _ _ _).1 s
    exact stillAgg_whole bn (tagA_size htb.1)
  obtain ⟨W, hW⟩ : ∃ W : Sl → GH → Prop, ∀ sr q, W sr q ↔ (Mv [k, y2, y3, y4] g q ∧ MakC q c k p real seed asked ∧ BlkC q y2 pn (tagA nonce) T.api_Tag ∧ BlkC q y3 pv (Array.replicate 32 (.int .u8 0)) T.api_Tag ∧ RowsC q y4 sr (coinRows game player side)) := ⟨fun sr q => _, fun _ _ => Iff.rfl⟩
  have sR : ∀ {q : GH} {sc sp ss : Sl} {K : Sl → Heap → Prop}, S (some (sc, true)) (some sp) (some ss) q → (∀ (sr : Sl) (q' : GH), W sr q' → K sr q'.h) →
      newSlK q.h 4 #[(.slice sc.a sc.n sc.c), (.slice sg.a sg.n sg.c), (.slice sp.a sp.n sp.c), (.slice ss.a ss.n ss.c)] T.sl_uint8 K := by
    intro q sc sp ss K s h
    obtain ⟨m, x, bn, bv, rg, f1, f2, f3, f4⟩ := (hS _ _ _ _).1 s
    obtain ⟨rc, hc⟩ := f2 sc rfl
    obtain ⟨rp, hp⟩ := f3 sp rfl
    obtain ⟨rs, hs⟩ := f4 ss rfl
    refine newSl_C q y4 rfl fun sr q' e o hn hcr => h sr q' ((hW _ _).2 ⟨m.step e (by simp), x.mv e (by simp) (by simp), bn.mv e (by simp), bv.mv e (by simp), ?_⟩)
    refine RowsC.of (sls := [sc, sg, sp, ss]) o.rd rfl fun i sl xs h1 h2 => ?_
    have hi : i < 4 := by
      rcases Nat.lt_or_ge i 4 with h | h
      · exact h
      · rw [List.getElem?_eq_none (by simpa using h)] at h1; cases h1
    have : i = 0 ∨ i = 1 ∨ i = 2 ∨ i = 3 := by omega
    rcases this with rfl | rfl | rfl | rfl <;> (simp only [coinRows, List.getElem?_cons_zero, List.getElem?_cons_succ, Option.some.injEq] at h1 h2; subst h1; subst h2)
    · exact ⟨rc.mv e (by simp), hc⟩
    · exact ⟨rg.mv e (by simp), hsgc⟩
    · exact ⟨rp.mv e (by simp), hp⟩
    · exact ⟨rs.mv e (by simp), hs⟩
  have stw : ∀ {q : GH} {sr : Sl}, W sr q → stillAggK (sizeOfT Tryz.prog T.api_Tag) q.h (some ⟨pn, 0, none⟩) (tagA nonce) := by
    intro q sr s
    obtain ⟨m, x, bn, bv, rr⟩ := (hW _ _).1 s
    exact stillAgg_whole bn (tagA_size htb.1)
  have fin : ∀ {q : GH} {sr : Sl} {is : Bool}, is = (bitT player && bitT side) → W sr q →
      callK Tryz.prog (Kd.pair .agg (.int .i64)) F.commit_some #[(.pointer (some ⟨p, 0, none⟩)), (.bool is), (.agg (tagA nonce)), (.slice sr.a sr.n sr.c)] (fun (v_13 : Array Value × Int) (h : Heap) =>
      storeAggK (sizeOfT Tryz.prog T.api_Tag) h (some ⟨pv, 0, none⟩) v_13.1 (fun (h : Heap) =>
      quietK Tryz.prog .agg (Instr.loadAt T.api_Tag (.pointer (some ⟨pv, 0, none⟩))) (fun (r_14 : Array Value) =>
      R (.tuple #[(.agg r_14), (.int .i64 v_13.2)]) h) h)) q.h := by
    intro q sr is his s
    subst his
    obtain ⟨m, x, bn, bv, rr⟩ := (hW _ _).1 s
    refine some_spec hck x _ nonce okn sr _ rr (fun xs hx => ?_) (fun xs hx => ?_) (by simp [coinRows]) fun q2 e2 x2 => ⟨(_, _), rfl, ?_⟩
    · simp only [coinRows, List.mem_cons, List.mem_nil_iff, or_false] at hx
      rcases hx with rfl | rfl | rfl | rfl
      · simp [coinB, isByte]
      · exact hgb.2
      · intro z hz; simp only [List.mem_singleton] at hz; rw [hz]; exact isByte_wrap _
      · intro z hz; simp only [List.mem_singleton] at hz; rw [hz]; exact isByte_wrap _
    · simp only [coinRows, List.mem_cons, List.mem_nil_iff, or_false] at hx
      rcases hx with rfl | rfl | rfl | rfl
      · simp [coinB]
      · rw [hgb.1]; omega
      · simp
      · simp
    · try dsimp only
      refine result_C (n := 32) szTag dTag (bv.mv e2 (by simp [n3.2.1])) (by simp) (by simp [(someT_tag _ _ _ _ _).1]) (fun v hv => oneBy _ v hv) fun q10 e10 => ?_
      have M := (m.step e2 (by simp)).step e10 (by simp)
      exact H (g.via q10 id) (M.re id hre) ((x2.mv e10 (by simp [Ne.symm n3.1]) (by simp [Ne.symm n3.2.1])).re (φ := id) M (.inl rfl) (.inl rfl))
  have st : S none none none q3 := (hS _ _ _ _).2 ⟨m, x, bn, bv, rg, fun _ e => (by cases e), fun _ e => (by cases e), fun _ e => (by cases e), fun _ e => (by cases e)⟩
  clear hS hW m x bn bv rg bg e1 e2 e3
  have bp : ∀ {q : GH} {K : Bool → Heap → Prop}, K (bitT player) q.h → callK Tryz.prog .bool F.commit_bit #[(.int .i64 player)] K q.h := fun h => coinBit_spec ⟨_, rfl, h⟩
  have bs : ∀ {q : GH} {K : Bool → Heap → Prop}, K (bitT side) q.h → callK Tryz.prog .bool F.commit_bit #[(.int .i64 side)] K q.h := fun h => coinBit_spec ⟨_, rfl, h⟩
  have fin1 : bitT player = true → ∀ {q : GH} {sr : Sl}, W sr q → _ := fun hp {q sr} s => fin (q := q) (sr := sr) (is := bitT side) (by rw [hp, Bool.true_and]) s
  have fin0 : bitT player = false → ∀ {q : GH} {sr : Sl}, W sr q → _ := fun hp {q sr} s => fin (q := q) (sr := sr) (is := false) (by rw [hp, Bool.false_and]) s
  clear fin
  cases hp : bitT player with
  | true =>
    replace fin1 := @fin1 hp
    clear fin0
    rw [hp] at bp
    repeat' (first
      | with_reducible exact fin1 sw
      | with_reducible exact stw sw
      | with_reducible exact stl st
      | (with_reducible refine sR st ?_; intro s' q' sw; try dsimp only)
      | (with_reducible refine sC1 st ?_; intro s' q' st; try dsimp only)
      | (with_reducible refine sC2 st ?_; intro q' st; try dsimp only)
      | (with_reducible refine sP st ?_; intro s' q' st; try dsimp only)
      | (with_reducible refine sS st ?_; intro s' q' st; try dsimp only)
      | (with_reducible refine bs ?_; try dsimp only)
      | (with_reducible refine bp ?_; try dsimp only)
      | rw [if_pos (rfl : true = true)]
      | with_reducible refine And.intro ?_ ?_)
  | false =>
    replace fin0 := @fin0 hp
    clear fin1
    rw [hp] at bp
    repeat' (first
      | with_reducible exact fin0 sw
      | with_reducible exact stw sw
      | with_reducible exact stl st
      | (with_reducible refine sR st ?_; intro s' q' sw; try dsimp only)
      | (with_reducible refine sC1 st ?_; intro s' q' st; try dsimp only)
      | (with_reducible refine sC2 st ?_; intro q' st; try dsimp only)
      | (with_reducible refine sP st ?_; intro s' q' st; try dsimp only)
      | (with_reducible refine sS st ?_; intro s' q' st; try dsimp only)
      | (with_reducible refine bs ?_; try dsimp only)
      | (with_reducible refine bp ?_; try dsimp only)
      | rw [if_neg (by decide : ¬ false = true)]
      | with_reducible refine And.intro ?_ ?_)

end Go.Proofs.YtafjmdeldejonaaGreat
