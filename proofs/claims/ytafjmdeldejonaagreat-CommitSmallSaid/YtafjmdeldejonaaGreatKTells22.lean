/-
  The document's coins; what opens coins.
-/
import Derived.Test.YtafjmdeldejonaaGreatKRef22
set_option linter.unusedSimpArgs false
set_option linter.unusedVariables false
namespace Go.Proofs.YtafjmdeldejonaaGreat
open Go Go.Ev

theorem tag0_22 (w : World) : (Instr.build T.api_Tag #[]).run Tryz.prog w = .ok (.agg (tagA zero32)) w := by kernel_rfl

set_option maxHeartbeats 40000000 in
set_option maxRecDepth 100000 in
theorem ref22Coin_spec {g : GH} {c p : Nat} (x : Mk22 g c p) (game : List Int) (okg : ShTag.ok game) (player side : Int) (nonce : List Int) (okn : ShTag.ok nonce) (asked : List ShThing.T) {R : Value → Heap → Prop}
    (H : ∀ g' : GH, Mv [] g g' → R (.tuple #[.agg (tagA (coinT true asked game player side nonce).1), .int .i64 (coinT true asked game player side nonce).2.1]) g'.h) :
    HC Tryz.prog F.ref22_Coin #[.pointer (some ⟨p, 0, none⟩), .agg (tagA game), .int .i64 player, .int .i64 side, .agg (tagA nonce)] R g.h := by
  refine ref22_Coin.calls ?_
  unfold ref22_Coin.body
  have htb := okTagB okn
  have hgb := okTagB okg
  have m := Mv.refl [1, 2, 3, 4] g.base
  replace x := x.base
  refine new_C g.base 1 fun pg q1 e1 bg => ?_
  replace m := m.step e1 (by simp)
  replace x := x.mv e1 (by simp)
  refine new_C q1 2 fun pn q2 e2 bn => ?_
  replace m := m.step e2 (by simp)
  replace x := x.mv e2 (by simp)
  replace bg := bg.mv e2 (by simp)
  rw [zTag]
  refine new_C q2 3 fun pv q3 e3 bv => ?_
  replace m := m.step e3 (by simp)
  replace x := x.mv e3 (by simp)
  replace bg := bg.mv e3 (by simp)
  replace bn := bn.mv e3 (by simp)
  have out : ∀ (q : GH) (u : List Int) (e : Int), (coinT true asked game player side nonce).1 = u → (coinT true asked game player side nonce).2.1 = e → u.length = 32 → Mv [1, 2, 3, 4] g.base q → BlkC q 3 pv (Array.replicate 32 (.int .u8 0)) T.api_Tag →
      storeAggK (sizeOfT Tryz.prog T.api_Tag) q.h (some ⟨pv, 0, none⟩) (tagA u) (fun (h : Heap) =>
      quietK Tryz.prog .agg (Instr.loadAt T.api_Tag (.pointer (some ⟨pv, 0, none⟩))) (fun (r_16 : Array Value) =>
      R (.tuple #[(.agg r_16), (.int .i64 e)]) h) h) := by
    intro q u e h1 h2 hu m bv
    refine result_C (n := 32) szTag dTag bv (by simp) (by simp [hu]) (fun v hv => oneBy _ v hv) fun q5 m5 => ?_
    have := H (g.via q5 fun _ => 0) ((m.step m5 (by simp)).via (by simp) _)
    rw [h1, h2] at this
    exact this
  have no : (bitT player && bitT side) = false → (coinT true asked game player side nonce).1 = zero32 ∧ (coinT true asked game player side nonce).2.1 = 2 := by
    intro h
    unfold coinT someT
    rw [h, if_neg (by simp)]
    exact ⟨rfl, rfl⟩
  have hbit : ∀ n : Int, bitT n = true ↔ (0 ≤ n ∧ n ≤ 1) := by
    intro n
    unfold bitT
    simp
    omega
  have bad : (bitT player && bitT side) = false → buildK Tryz.prog (Instr.build T.api_Tag #[]) (fun (v_4 : Array Value) =>
      storeAggK (sizeOfT Tryz.prog T.api_Tag) q3.h (some ⟨pv, 0, none⟩) v_4 (fun (h : Heap) =>
      quietK Tryz.prog .agg (Instr.loadAt T.api_Tag (.pointer (some ⟨pv, 0, none⟩))) (fun (r_5 : Array Value) =>
      R (.tuple #[(.agg r_5), (.int .i64 2)]) h) h)) := fun h => ⟨_, tag0_22, out q3 zero32 2 (no h).1 (no h).2 zero32_tag.1 m bv⟩
  by_cases h1 : player < 0
  · rw [if_pos (by simpa using h1)]
    exact bad (by rw [Bool.and_eq_false_iff]; left; rw [← Bool.not_eq_true, hbit]; omega)
  rw [if_neg (by simpa using h1)]
  by_cases h2 : player > 1
  · rw [if_pos (by simpa using h2)]
    exact bad (by rw [Bool.and_eq_false_iff]; left; rw [← Bool.not_eq_true, hbit]; omega)
  rw [if_neg (by simpa using h2)]
  by_cases h3 : side < 0
  · rw [if_pos (by simpa using h3)]
    exact bad (by rw [Bool.and_eq_false_iff]; right; rw [← Bool.not_eq_true, hbit]; omega)
  rw [if_neg (by simpa using h3)]
  by_cases h4 : side > 1
  · rw [if_pos (by simpa using h4)]
    exact bad (by rw [Bool.and_eq_false_iff]; right; rw [← Bool.not_eq_true, hbit]; omega)
  rw [if_neg (by simpa using h4)]
  clear bad no
  have hgood : coinT true asked game player side nonce = coverT true asked nonce (coinRows game player side) := by
    unfold coinT someT
    rw [(hbit player).2 (by omega), (hbit side).2 (by omega)]
    rfl
  refine loadAgg_whole bn (tagA_size htb.1) ?_
  refine loadAgg_whole bg (tagA_size hgb.1) ?_
  obtain ⟨S, hS⟩ : ∃ S : Option (Sl × Bool) → Option Sl → Option Sl → Option Sl → GH → Prop, ∀ oc og op os q, S oc og op os q ↔ (Mv [1, 2, 3, 4] g.base q ∧ Mk22 q 0 p ∧ BlkC q 2 pn (tagA nonce) T.api_Tag ∧ BlkC q 3 pv (Array.replicate 32 (.int .u8 0)) T.api_Tag ∧
      (∀ s, oc = some (s, false) → OwnC T.uint8 1 q 4 s (coinB.map byV)) ∧ (∀ s, oc = some (s, true) → RdC 1 q 4 s (coinB.map byV) ∧ s.n ≤ s.c) ∧
      (∀ s, og = some s → RdC 1 q 4 s (game.map byV) ∧ s.n ≤ s.c) ∧
      (∀ s, op = some s → RdC 1 q 4 s ([IntKind.u8.wrap player].map byV) ∧ s.n ≤ s.c) ∧ (∀ s, os = some s → RdC 1 q 4 s ([IntKind.u8.wrap side].map byV) ∧ s.n ≤ s.c)) := ⟨fun oc og op os q => _, fun _ _ _ _ _ => Iff.rfl⟩
  have sC1 : ∀ {q : GH} {og op os : Option Sl} {K : Sl → Heap → Prop}, S none og op os q → (∀ (s : Sl) (q' : GH), S (some (s, false)) og op os q' → K s q'.h) → newSlK q.h 4 #[(.int .u8 99), (.int .u8 111), (.int .u8 105), (.int .u8 110)] T.uint8 K := by
    intro q og op os K s h
    obtain ⟨m, x, bn, bv, f1, f2, f5, f3, f4⟩ := (hS _ _ _ _ _).1 s
    refine newSl_C q 4 rfl fun s' q' e o hn hc => h s' q' ((hS _ _ _ _ _).2 ⟨m.step e (by simp), x.mv e (by simp), bn.mv e (by simp), bv.mv e (by simp), fun s h => ?_, fun s h => ?_, fun s h => ⟨(f5 s h).1.mv e (by simp), (f5 s h).2⟩, fun s h => ⟨(f3 s h).1.mv e (by simp), (f3 s h).2⟩, fun s h => ⟨(f4 s h).1.mv e (by simp), (f4 s h).2⟩⟩)
    · cases h; exact o
    · cases h
  have sC2 : ∀ {q : GH} {og op os : Option Sl} {sc : Sl} {K : Sl → Heap → Prop}, S (some (sc, false)) og op os q → (∀ (q' : GH), S (some (sc, true)) og op os q' → K sc q'.h) → opK Tryz.prog .slice (convert T.sl_uint8 T.sl_uint8 (.slice sc.a sc.n sc.c)) K q.h := by
    intro q og op os sc K s h
    obtain ⟨m, x, bn, bv, f1, f2, f5, f3, f4⟩ := (hS _ _ _ _ _).1 s
    have o := f1 sc rfl
    refine convRd (e := T.uint8) (by kernel_rfl) (by kernel_rfl) o (by simp [coinB]) fun q' e r k4 => h q' ((hS _ _ _ _ _).2 ⟨m.step e (by simp), x.mv e (by simp), bn.mv e (by simp), bv.mv e (by simp), fun s h => ?_, fun s h => ?_, fun s h => ⟨k4 _ _ _ (f5 s h).1, (f5 s h).2⟩, fun s h => ⟨k4 _ _ _ (f3 s h).1, (f3 s h).2⟩, fun s h => ⟨k4 _ _ _ (f4 s h).1, (f4 s h).2⟩⟩)
    · cases h
    · cases h; exact ⟨r, o.cap⟩
  have sG : ∀ {q : GH} {oc : Option (Sl × Bool)} {op os : Option Sl} {K : Sl → Heap → Prop}, S oc none op os q → (∀ (s : Sl) (q' : GH), S oc (some s) op os q' → K s q'.h) → callK Tryz.prog .slice F.ref22_raw #[(.agg (tagA game))] K q.h := by
    intro q oc op os K s h
    obtain ⟨m, x, bn, bv, f1, f2, f5, f3, f4⟩ := (hS _ _ _ _ _).1 s
    refine raw22_spec q 4 game okg fun s' q' e o => ⟨s', rfl, h s' q' ((hS _ _ _ _ _).2 ⟨m.step e (by simp), x.mv e (by simp), bn.mv e (by simp), bv.mv e (by simp), fun s h => (f1 s h).mv e (by simp), fun s h => ⟨(f2 s h).1.mv e (by simp), (f2 s h).2⟩, fun s h => ?_, fun s h => ⟨(f3 s h).1.mv e (by simp), (f3 s h).2⟩, fun s h => ⟨(f4 s h).1.mv e (by simp), (f4 s h).2⟩⟩)⟩
    cases h; exact ⟨o.rd, o.cap⟩
  have sP : ∀ {q : GH} {oc : Option (Sl × Bool)} {og os : Option Sl} {K : Sl → Heap → Prop}, S oc og none os q → (∀ (s : Sl) (q' : GH), S oc og (some s) os q' → K s q'.h) → newSlK q.h 1 #[(.int .u8 (IntKind.u8.wrap player))] T.uint8 K := by
    intro q oc og os K s h
    obtain ⟨m, x, bn, bv, f1, f2, f5, f3, f4⟩ := (hS _ _ _ _ _).1 s
    refine newSl_C q 4 rfl fun s' q' e o hn hc => h s' q' ((hS _ _ _ _ _).2 ⟨m.step e (by simp), x.mv e (by simp), bn.mv e (by simp), bv.mv e (by simp), fun s h => (f1 s h).mv e (by simp), fun s h => ⟨(f2 s h).1.mv e (by simp), (f2 s h).2⟩, fun s h => ⟨(f5 s h).1.mv e (by simp), (f5 s h).2⟩, fun s h => ?_, fun s h => ⟨(f4 s h).1.mv e (by simp), (f4 s h).2⟩⟩)
    cases h; exact ⟨o.rd, o.cap⟩
  have sS : ∀ {q : GH} {oc : Option (Sl × Bool)} {og op : Option Sl} {K : Sl → Heap → Prop}, S oc og op none q → (∀ (s : Sl) (q' : GH), S oc og op (some s) q' → K s q'.h) → newSlK q.h 1 #[(.int .u8 (IntKind.u8.wrap side))] T.uint8 K := by
    intro q oc og op K s h
    obtain ⟨m, x, bn, bv, f1, f2, f5, f3, f4⟩ := (hS _ _ _ _ _).1 s
    refine newSl_C q 4 rfl fun s' q' e o hn hc => h s' q' ((hS _ _ _ _ _).2 ⟨m.step e (by simp), x.mv e (by simp), bn.mv e (by simp), bv.mv e (by simp), fun s h => (f1 s h).mv e (by simp), fun s h => ⟨(f2 s h).1.mv e (by simp), (f2 s h).2⟩, fun s h => ⟨(f5 s h).1.mv e (by simp), (f5 s h).2⟩, fun s h => ⟨(f3 s h).1.mv e (by simp), (f3 s h).2⟩, fun s h => ?_⟩)
    cases h; exact ⟨o.rd, o.cap⟩
  have stl : ∀ {q : GH} {oc : Option (Sl × Bool)} {og op os : Option Sl}, S oc og op os q → stillAggK (sizeOfT Tryz.prog T.api_Tag) q.h (some ⟨pn, 0, none⟩) (tagA nonce) := by
    intro q oc og op os s
    obtain ⟨m, x, bn, bv, _⟩ := (hS _ _ _ _ _).1 s
    exact stillAgg_whole bn (tagA_size htb.1)
  have fin : ∀ {q : GH} {sc sg sp ss : Sl}, S (some (sc, true)) (some sg) (some sp) (some ss) q →
      newSlK q.h 4 #[(.slice sc.a sc.n sc.c), (.slice sg.a sg.n sg.c), (.slice sp.a sp.n sp.c), (.slice ss.a ss.n ss.c)] T.sl_uint8 (fun (v_12 : Sl) (h : Heap) =>
      callK Tryz.prog (Kd.pair .agg (.int .i64)) F.ref22_Cover #[(.pointer (some ⟨p, 0, none⟩)), (.agg (tagA nonce)), (.slice v_12.a v_12.n v_12.c)] (fun (v_13 : Array Value × Int) (h : Heap) =>
      storeAggK (sizeOfT Tryz.prog T.api_Tag) h (some ⟨pv, 0, none⟩) v_13.1 (fun (h : Heap) =>
      quietK Tryz.prog .agg (Instr.loadAt T.api_Tag (.pointer (some ⟨pv, 0, none⟩))) (fun (r_14 : Array Value) =>
      R (.tuple #[(.agg r_14), (.int .i64 v_13.2)]) h) h)) h) := by
    intro q sc sg sp ss s
    obtain ⟨m, x, bn, bv, f1, f2, f5, f3, f4⟩ := (hS _ _ _ _ _).1 s
    obtain ⟨rc, hc⟩ := f2 sc rfl
    obtain ⟨rg, hg⟩ := f5 sg rfl
    obtain ⟨rp, hp⟩ := f3 sp rfl
    obtain ⟨rs, hs⟩ := f4 ss rfl
    refine newSl_C q 4 rfl fun sr q' e o hn hcr => ?_
    have rr : RowsC q' 4 sr (coinRows game player side) := by
      refine RowsC.of (sls := [sc, sg, sp, ss]) o.rd rfl fun i sl xs h1 h2 => ?_
      have hi : i < 4 := by
        rcases Nat.lt_or_ge i 4 with h | h
        · exact h
        · rw [List.getElem?_eq_none (by simpa using h)] at h1; cases h1
      have : i = 0 ∨ i = 1 ∨ i = 2 ∨ i = 3 := by omega
      rcases this with rfl | rfl | rfl | rfl <;> (simp only [coinRows, List.getElem?_cons_zero, List.getElem?_cons_succ, Option.some.injEq] at h1 h2; subst h1; subst h2)
      · exact ⟨rc.mv e (by simp), hc⟩
      · exact ⟨rg.mv e (by simp), hg⟩
      · exact ⟨rp.mv e (by simp), hp⟩
      · exact ⟨rs.mv e (by simp), hs⟩
    refine ref22Cover_spec (x.mv e (by simp)) nonce okn sr _ rr (fun xs hx => ?_) (by simp [coinRows, total, coinB, hgb.1]) (by simp [coinRows]) asked fun q2 e2 => ⟨(_, _), rfl, ?_⟩
    · simp only [coinRows, List.mem_cons, List.mem_nil_iff, or_false] at hx
      rcases hx with rfl | rfl | rfl | rfl
      · simp [coinB, isByte]
      · exact hgb.2
      · intro z hz; simp only [List.mem_singleton] at hz; rw [hz]; exact isByte_wrap _
      · intro z hz; simp only [List.mem_singleton] at hz; rw [hz]; exact isByte_wrap _
    · try dsimp only
      exact out q2 _ _ (by rw [hgood]) (by rw [hgood]) (coverT_tag _ _ _ _).1 ((m.step e (by simp)).step e2 (by simp)) ((bv.mv e (by simp)).mv e2 (by simp))
  have st : S none none none none q3 := (hS _ _ _ _ _).2 ⟨m, x, bn, bv, fun _ e => (by cases e), fun _ e => (by cases e), fun _ e => (by cases e), fun _ e => (by cases e), fun _ e => (by cases e)⟩
  clear hS m x bn bv bg e1 e2 e3 out
  repeat' (first
    | with_reducible exact fin st
    | with_reducible exact stl st
    | (with_reducible refine sC1 st ?_; intro s' q' st; try dsimp only)
    | (with_reducible refine sC2 st ?_; intro q' st; try dsimp only)
    | (with_reducible refine sG st ?_; intro s' q' st; try dsimp only)
    | (with_reducible refine sP st ?_; intro s' q' st; try dsimp only)
    | (with_reducible refine sS st ?_; intro s' q' st; try dsimp only)
    | with_reducible refine And.intro ?_ ?_)

set_option maxHeartbeats 1000000 in
theorem openCoin_spec {g : GH} {c k p : Nat} (hck : ¬ c = k) {real : Bool} {seed : List Int} {asked : List ShThing.T} (x : MakC g c k p real seed asked) (t : List Int) (okt : ShTag.ok t) (game : List Int) (okg : ShTag.ok game) (player side : Int) (nonce : List Int) (okn : ShTag.ok nonce) {R : Value → Heap → Prop}
    (H : ∀ g' : GH, Mv [k] g g' → MakC g' c k p real seed (coinT real asked game player side nonce).2.2 → R (.int .i64 (fitsT t (coinT real asked game player side nonce).1 (coinT real asked game player side nonce).2.1)) g'.h) :
    HC Tryz.prog F.commit_OpenCoin #[.pointer (some ⟨p, 0, none⟩), .agg (tagA t), .agg (tagA game), .int .i64 player, .int .i64 side, .agg (tagA nonce)] R g.h := by
  refine commit_OpenCoin.calls ?_
  unfold commit_OpenCoin.body
  have htb := okTagB okt
  have hnb := okTagB okn
  have hgb := okTagB okg
  obtain ⟨y1, hy1, n1⟩ := fresh_exists g [c, k]
  simp only [List.mem_cons, List.mem_nil_iff, or_false, not_or] at n1
  have m := Mv.refl [k, y1] g
  refine new_C g y1 fun pm q1 m1 bm => ?_
  refine new_C q1 y1 fun pt q2 m2 bt => ?_
  refine new_C q2 y1 fun pg q3 m3 bg => ?_
  refine new_C q3 y1 fun pp q4 m4 bp => ?_
  refine new_C q4 y1 fun ps q5 m5 bs => ?_
  refine new_C q5 y1 fun pn q6 m6 bn => ?_
  replace m := (((((m.step m1 (by simp)).step m2 (by simp)).step m3 (by simp)).step m4 (by simp)).step m5 (by simp)).step m6 (by simp)
  have bm6 := ((((bm.mv m2 (by simp)).mv m3 (by simp)).mv m4 (by simp)).mv m5 (by simp)).mv m6 (by simp)
  have bt6 := (((bt.mv m3 (by simp)).mv m4 (by simp)).mv m5 (by simp)).mv m6 (by simp)
  have bg6 := ((bg.mv m4 (by simp)).mv m5 (by simp)).mv m6 (by simp)
  have bp6 := (bp.mv m5 (by simp)).mv m6 (by simp)
  have bs6 := bs.mv m6 (by simp)
  have x6 := (((((x.mv m1 (by simp) (by simp)).mv m2 (by simp) (by simp)).mv m3 (by simp) (by simp)).mv m4 (by simp) (by simp)).mv m5 (by simp) (by simp)).mv m6 (by simp) (by simp)
  refine loadAgg_whole bt6 (tagA_size htb.1) ?_
  have htag : (coinT real asked game player side nonce).1.length = 32 ∧ ∀ x ∈ (coinT real asked game player side nonce).1, isByte x := someT_tag _ _ _ _ _
  refine opened_spec (c := c) (k := k) (p := p) (real := real) (seed := seed) (B := (coinT real asked game player side nonce).2.2) (e := (coinT real asked game player side nonce).2.1) okt htag hck _ _ (fun q mq R' hR' => ?_) fun q7 m7 x7 => ⟨_, rfl, ?_⟩
  · show HC Tryz.prog F.commit_OpenCoin_1 #[.pointer (some ⟨pm, 0, none⟩), .pointer (some ⟨pg, 0, none⟩), .pointer (some ⟨pp, 0, none⟩), .pointer (some ⟨ps, 0, none⟩), .pointer (some ⟨pn, 0, none⟩)] R' q.h
    refine commit_OpenCoin_1.calls ?_
    unfold commit_OpenCoin_1.body
    obtain ⟨z, hz, nz⟩ := fresh_exists q [c, k, y1]
    simp only [List.mem_cons, List.mem_nil_iff, or_false, not_or] at nz
    rw [zTag]
    refine new_C q z fun pz q8 m8 bz => ?_
    rw [loadK_C ((bm6.mv mq (by simp)).mv m8 (by simp))]
    refine ⟨some ⟨p, 0, none⟩, rfl, ?_⟩
    refine loadAgg_whole ((bg6.mv mq (by simp)).mv m8 (by simp)) (tagA_size hgb.1) ?_
    rw [loadK_C ((bp6.mv mq (by simp)).mv m8 (by simp))]
    refine ⟨player, rfl, ?_⟩
    rw [loadK_C ((bs6.mv mq (by simp)).mv m8 (by simp))]
    refine ⟨side, rfl, ?_⟩
    refine loadAgg_whole ((bn.mv mq (by simp)).mv m8 (by simp)) (tagA_size hnb.1) ?_
    refine coin_spec hck ((x6.mv mq (by simp) (by simp)).mv m8 (by simp) (by simp)) game okg player side nonce okn fun q9 m9 x9 => ⟨(_, _), rfl, ?_⟩
    try dsimp only
    refine result_C (n := 32) szTag dTag (bz.mv m9 (by simp [nz.2.1])) (by simp) (by simp [htag.1]) (fun v hv => oneBy _ v hv) fun q10 m10 => ?_
    have M : Mv [k, z] q q10 := ((Mv.mono m8 (L := [k, z]) (by simp)).step m9 (by simp)).step m10 (by simp)
    refine hR' (q.via q10 id) (M.re id fun j hj => ?_) ((x9.mv m10 (by simp [Ne.symm nz.1]) (by simp [Ne.symm nz.2.1])).re (φ := id) M (.inl rfl) (.inl rfl))
    simp only [List.mem_cons, List.mem_nil_iff, or_false] at hj
    rcases hj with rfl | rfl
    · exact .inl (by simp)
    · exact .inr hz
  · replace m := m.step m7 (by simp)
    refine H (g.via q7 id) (m.re id fun j hj => ?_) (x7.re (φ := id) m (.inl rfl) (.inl rfl))
    simp only [List.mem_cons, List.mem_nil_iff, or_false] at hj
    rcases hj with rfl | rfl
    · exact .inl (by simp)
    · exact .inr hy1

end Go.Proofs.YtafjmdeldejonaaGreat
