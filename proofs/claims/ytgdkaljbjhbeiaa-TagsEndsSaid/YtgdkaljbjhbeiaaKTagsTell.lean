/-
  TagsTell.
-/
import Derived.Test.YtgdkaljbjhbeiaaKMeant
import Derived.Test.YtgdkaljbjhbeiaaKTagsFresh
set_option linter.unusedSimpArgs false
set_option linter.unusedVariables false
namespace Go.Proofs.Ytgdkaljbjhbeiaa
open Go Go.Ev

/-! ### The table's things, the document's -/

def rth (x : ThingT) : ThingT := (if x.1 = 115 then 0 else if x.1 = 109 then 1 else 2, x.2)
def Kinded (x : ThingT) : Prop := x.1 = 115 ∨ x.1 = 109 ∨ x.1 = 100
theorem rth_inj {x y : ThingT} (hx : Kinded x) (hy : Kinded y) (h : rth x = rth y) : x = y := by
  obtain ⟨a, x⟩ := x
  obtain ⟨b, y⟩ := y
  unfold rth at h
  unfold Kinded at hx hy
  simp only [Prod.mk.injEq] at h hx hy ⊢
  refine ⟨?_, h.2⟩
  rcases hx with rfl | rfl | rfl <;> rcases hy with rfl | rfl | rfl <;> simp_all
theorem kinded_thing (a : AskT) : Kinded (thingOf a) := by
  unfold thingOf Kinded
  split
  · exact .inl rfl
  · split
    · exact .inr (.inl rfl)
    · exact .inr (.inr rfl)
theorem idxIn_map {A : List ThingT} {x : ThingT} (hA : ∀ y ∈ A, Kinded y) (hx : Kinded x) : idxIn (rth x) (A.map rth) = idxIn x A := by
  induction A with
  | nil => rfl
  | cons y A ih =>
    have h1 : rth x = rth y ↔ x = y := ⟨fun h => rth_inj hx (hA y (by simp)) h, fun h => by rw [h]⟩
    have ih' := ih fun z hz => hA z (by simp [hz])
    simp only [List.map_cons, idxIn, h1, ih']
theorem askT_map {A : List ThingT} {x : ThingT} (hA : ∀ y ∈ A, Kinded y) (hx : Kinded x) : askT (A.map rth) (rth x) = ((askT A x).1, (askT A x).2.map rth) := by
  unfold askT
  rw [idxIn_map hA hx]
  cases idxIn x A <;> simp
theorem askT_kinded {A : List ThingT} {x : ThingT} (hA : ∀ y ∈ A, Kinded y) (hx : Kinded x) : ∀ y ∈ (askT A x).2, Kinded y := by
  cases hq : idxIn x A with
  | some j => rw [askT_there hq]; exact hA
  | none =>
    rw [askT_none hq]
    intro y hy
    rcases List.mem_append.1 hy with hy | hy
    · exact hA y hy
    · simp only [List.mem_singleton] at hy; rw [hy]; exact hx

/-- What a maker tells, and what it was asked then. -/
def tellT (real : Bool) (seed : List Int) (A : List ThingT) (a : AskT) : List Int × List ThingT := if real = true then (tellR seed a, A) else (numT ((askT A (thingOf a)).1 : Int), (askT A (thingOf a)).2)
theorem tellT_tag (real : Bool) (seed : List Int) (A : List ThingT) (a : AskT) : (tellT real seed A a).1.length = 32 ∧ ∀ x ∈ (tellT real seed A a).1, isByte x := by
  unfold tellT
  split
  · exact ⟨tellR_length _ _, tellR_byte _ _⟩
  · exact ⟨numT_length _, numT_byte _⟩
theorem tellT_kinded {real : Bool} {seed : List Int} {A : List ThingT} {a : AskT} (hA : ∀ y ∈ A, Kinded y) : ∀ y ∈ (tellT real seed A a).2, Kinded y := by
  unfold tellT
  split
  · exact hA
  · exact askT_kinded hA (kinded_thing a)
theorem tellT_len (real : Bool) (seed : List Int) (A : List ThingT) (a : AskT) : (tellT real seed A a).2.length ≤ A.length + 1 := by
  unfold tellT
  split
  · simp
  · exact askT_len _ _

set_option maxHeartbeats 1000000 in
theorem meant_spec {g : GH} {c k p d e : Nat} (hck : ¬ c = k) {real : Bool} {ss : Sl} {A : List ThingT} (x : MnC g c k p real ss (A.map rth)) (hA : ∀ y ∈ A, Kinded y) (hl : A.length ≤ 10000) {a : AskT} {cs : List Value} (lay : LayC g d ShAsk a cs) (hs : size04 a ≤ 1000)
    (seed : List Int) (rs : RdC 1 g e ss (seed.map byV)) (hsb : ∀ x ∈ seed, isByte x) (hsl : seed.length ≤ 1000000) {R : Value → Heap → Prop}
    (H : ∀ g' : GH, Mv [c, k] g g' → MnC g' c k p real ss ((tellT real seed A a).2.map rth) → R (.agg (tagA (tellT real seed A a).1)) g'.h) : HC Try.prog F.law04_meant #[.pointer (some ⟨p, 0, none⟩), .agg ⟨cs⟩] R g.h := by
  refine law04_meant.calls ?_
  unfold law04_meant.body
  unfold size04 at hs
  obtain ⟨y, hy, hyn⟩ := fresh_exists g [c, k, d, e]
  obtain ⟨y2, hy2, hyn2⟩ := fresh_exists g [c, k, d, e, y]
  obtain ⟨y3, hy3, hyn3⟩ := fresh_exists g [c, k, d, e, y, y2]
  simp only [List.mem_cons, List.mem_nil_iff, or_false, not_or] at hyn hyn2 hyn3
  have okA := AskOk.of lay
  obtain ⟨vk, vr, rfl, hk, hr, hw, hn⟩ := LayC.ask lay
  have m := Mv.refl [c, k, y, y2, y3] g
  rw [zTag]
  refine new_C g y fun q q1 m1 b1 => ?_
  replace m := m.step m1 (by simp)
  refine new_C q1 y2 fun t q2 m2 b2 => ?_
  replace m := m.step m2 (by simp)
  replace b1 := b1.mv m2 (by simp)
  replace x := (x.mv m1 (by simp) (by simp)).mv m2 (by simp) (by simp)
  replace rs := (rs.mv m1 (by simp)).mv m2 (by simp)
  simp only [fldK_some]
  rw [loadK_C b1]
  refine ⟨a.what, rfl, ?_⟩
  refine Pick_spec _ _ hw (by omega) ⟨_, rfl, ?_⟩
  have rk := (hk.ints.1.mv m1 (by simp)).mv m2 (by simp)
  have rr := (hr.rows.1.mv m1 (by simp)).mv m2 (by simp)
  have hfl : a.rows.flatten.length = total a.rows := by simp [total, List.length_flatten]
  have hre : ∀ j ∈ [c, k, y, y2, y3], j ∈ [c, k] ∨ Fresh g j := by
    intro j hj
    simp only [List.mem_cons, List.mem_nil_iff, or_false] at hj
    rcases hj with rfl | rfl | rfl | rfl | rfl
    · exact .inl (by simp)
    · exact .inl (by simp)
    · exact .inr hy
    · exact .inr hy2
    · exact .inr hy3
  have fin : ∀ (q3 : GH) (u : List Int) (B : List ThingT), tellT real seed A a = (u, B) → u.length = 32 → Mv [c, k, y, y2, y3] g q3 → MnC q3 c k p real ss (B.map rth) → BlkC q3 y2 t (Array.replicate 32 (.int .u8 0)) T.api_Tag →
      storeAggK (sizeOfT Try.prog T.api_Tag) q3.h (some ⟨t, 0, none⟩) (tagA u) (fun (h : Heap) =>
      quietK Try.prog .agg (Instr.loadAt T.api_Tag (.pointer (some ⟨t, 0, none⟩))) (fun (r_9 : Array Value) =>
      R (.agg r_9) h) h) := by
    intro q3 u B e hu m x b2
    refine result_C (n := 32) szTag dTag b2 (by simp) (by simp [hu]) (fun v hv => oneBy _ v hv) fun q5 m5 => ?_
    have M := m.step m5 (by simp)
    have := H (g.via q5 id) (M.re id hre) (by rw [e]; exact (x.mv m5 (by simp [Ne.symm hyn2.1]) (by simp [Ne.symm hyn2.2.1])).re (φ := id) M (.inl rfl) (.inl rfl))
    rw [e] at this
    exact this
  have hl2 : (A.map rth).length ≤ 100000 := by simp; omega
  dsimp only
  by_cases h0 : a.what % 3 = 0
  · rw [if_pos (by simpa using h0), loadK_C b1]
    refine ⟨vr, rfl, ?_⟩
    refine Join02_spec q2 y3 vr a.rows rr (by omega) (by omega) fun s3 q3 m3 o3 => ⟨_, rfl, ?_⟩
    replace m := m.step m3 (by simp)
    replace x := x.mv m3 (by simp) (by simp)
    replace b2 := b2.mv m3 (by simp)
    have hth : thingOf a = thS a.rows.flatten := by simp [thingOf, h0]
    have e0 : rth (thS a.rows.flatten) = rS a.rows.flatten := rfl
    have hk0 : Kinded (thS a.rows.flatten) := .inl rfl
    refine refSum2_spec hck x hl2 s3 a.rows.flatten o3.rd okA.flat (by omega) (fun hreal q4 m4 => ⟨_, rfl, ?_⟩) (fun hreal q4 m4 x4 => ⟨_, rfl, ?_⟩)
    · subst hreal
      exact fin q4 _ A (by simp [tellT, tellR, h0]) (shaB_length _) (m.step m4 (by simp)) (x.mv m4 (by simp) (by simp)) (b2.mv m4 (by simp))
    · subst hreal
      rw [← e0, askT_map hA hk0] at x4 ⊢
      exact fin q4 _ (askT A (thS a.rows.flatten)).2 (by simp [tellT, hth]) (numT_length _) (m.step m4 (by simp)) x4 (b2.mv m4 (by simp [hyn2.1, hyn2.2.1]))
  · rw [if_neg (by simpa using h0)]
    by_cases h1 : a.what % 3 = 1
    · rw [if_pos (by simpa using h1), loadK_C b1]
      refine ⟨vk, rfl, ?_⟩
      rw [loadK_C b1]
      refine ⟨vr, rfl, ?_⟩
      refine Join02_spec q2 y3 vr a.rows rr (by omega) (by omega) fun s3 q3 m3 o3 => ⟨_, rfl, ?_⟩
      replace m := m.step m3 (by simp)
      replace x := x.mv m3 (by simp) (by simp)
      replace b2 := b2.mv m3 (by simp)
      replace rk := rk.mv m3 (by simp)
      refine ⟨stillK_C (b1.mv m3 (by simp)) rfl, ?_⟩
      have hth : thingOf a = thM a.key a.rows.flatten := by simp [thingOf, h1]
      have e0 : rth (thM a.key a.rows.flatten) = rM a.key a.rows.flatten := rfl
      have hk0 : Kinded (thM a.key a.rows.flatten) := .inr (.inl rfl)
      refine refMac2_spec hck x hl2 vk s3 a.key a.rows.flatten rk okA.key (by omega) o3.rd okA.flat (by omega) (fun hreal q4 m4 => ⟨_, rfl, ?_⟩) (fun hreal q4 m4 x4 => ⟨_, rfl, ?_⟩)
      · subst hreal
        exact fin q4 _ A (by simp [tellT, tellR, h1]) (by simp [macB, shaB_length]) (m.step m4 (by simp)) (x.mv m4 (by simp) (by simp)) (b2.mv m4 (by simp))
      · subst hreal
        rw [← e0, askT_map hA hk0] at x4 ⊢
        exact fin q4 _ (askT A (thM a.key a.rows.flatten)).2 (by simp [tellT, hth]) (numT_length _) (m.step m4 (by simp)) x4 (b2.mv m4 (by simp [hyn2.1, hyn2.2.1]))
    · rw [if_neg (by simpa using h1), loadK_C b1]
      refine ⟨a.num, rfl, ?_⟩
      have hth : thingOf a = thD a.num := by simp [thingOf, h0, h1]
      have e0 : rth (thD a.num) = rD a.num := rfl
      have hk0 : Kinded (thD a.num) := .inr (.inr rfl)
      refine refDraw2_spec hck x hl2 a.num hn seed rs hsb hsl (fun hreal q4 m4 => ⟨_, rfl, ?_⟩) (fun hreal q4 m4 x4 => ⟨_, rfl, ?_⟩)
      · subst hreal
        exact fin q4 _ A (by simp [tellT, tellR, h0, h1]) (shaB_length _) (m.step m4 (by simp)) (x.mv m4 (by simp) (by simp)) (b2.mv m4 (by simp))
      · subst hreal
        rw [← e0, askT_map hA hk0] at x4 ⊢
        exact fin q4 _ (askT A (thD a.num)).2 (by simp [tellT, hth]) (numT_length _) (m.step m4 (by simp)) x4 (b2.mv m4 (by simp [hyn2.1, hyn2.2.1]))

/-! ### Colours that are taken for one -/

def GH.fold (g : GH) (ψ : Nat → Nat) : GH := ⟨g.h, fun b => ψ (g.γ b)⟩
theorem foldRd {sz : Nat} {g : GH} {k : Nat} {s : Sl} {vs : List Value} (r : RdC sz g k s vs) (ψ : Nat → Nat) {z : Nat} (hz : ψ k = z) : RdC sz (GH.fold g ψ) z s vs := ⟨r.rd, r.col.imp id fun ⟨b, h1, h2, h3⟩ => ⟨b, h1, h2, by show ψ (g.γ b) = z; rw [h3, hz]⟩⟩
theorem foldBlk {g : GH} {k b : Nat} {cells : Array Value} {e : TypeId} (r : BlkC g k b cells e) (ψ : Nat → Nat) {z : Nat} (hz : ψ k = z) : BlkC (GH.fold g ψ) z b cells e := ⟨r.blk, by show ψ (g.γ b) = z; rw [r.col, hz]⟩
theorem foldMak {g : GH} {c k p : Nat} {real : Bool} {seed : List Int} {asked : List ShThing.T} (x : MakC g c k p real seed asked) (ψ : Nat → Nat) (hc : ψ c = c) (hk : ψ k = k) : MakC (GH.fold g ψ) c k p real seed asked := by
  obtain ⟨r, s, b, n, d, h'⟩ := x
  exact ⟨r, s, foldBlk b ψ hc, ⟨⟨n.1.at_, by show ψ (g.γ r) = k; rw [n.1.col, hk]⟩, n.2⟩, foldRd d ψ hc, h'⟩
theorem unfoldMv {K : List Nat} {g q : GH} {ψ : Nat → Nat} (m : Mv K (GH.fold g ψ) q) (h : ∀ x, ψ x ∈ K → x ∈ K) : Mv K g (g.via q id) :=
  ⟨m.size, fun b hb => by simp [GH.via, hb], fun b hb hK => m.same b hb fun hx => hK (h _ hx)⟩
theorem unfoldCol {K : List Nat} {g q : GH} {ψ : Nat → Nat} (m : Mv K (GH.fold g ψ) q) {c b : Nat} (h : ∀ x, ψ x = c → x = c) (hb : q.γ b = c) : (g.via q id).γ b = c := by
  simp only [GH.via]
  split
  · rename_i hlt
    rw [m.col b hlt] at hb
    exact h _ hb
  · exact hb
theorem unfoldMak {K : List Nat} {g q : GH} {ψ : Nat → Nat} (m : Mv K (GH.fold g ψ) q) {c k p : Nat} {real : Bool} {seed : List Int} {asked : List ShThing.T} (x : MakC q c k p real seed asked) (hc : ∀ x, ψ x = c → x = c) (hk : ∀ x, ψ x = k → x = k) : MakC (g.via q id) c k p real seed asked := by
  obtain ⟨r, s, b, n, d, h'⟩ := x
  exact ⟨r, s, ⟨b.blk, unfoldCol m hc b.col⟩, ⟨⟨n.1.at_, unfoldCol m hk n.1.col⟩, n.2⟩, ⟨d.rd, d.col.imp id fun ⟨b, h1, h2, h3⟩ => ⟨b, h1, h2, unfoldCol m hc h3⟩⟩, h'⟩

/-- What is asked, told of by facts. -/
theorem toldRaw_spec {g : GH} {c k p d e : Nat} (hck : ¬ c = k) {real : Bool} {seed : List Int} {asked : List ShThing.T} (x : MakC g c k p real seed asked) (a : AskT) (vk vr : Sl) (rk : RdC 1 g e vk (a.key.map byV)) (hkc : vk.n ≤ vk.c) (rr : RowsC g d vr a.rows) (okA : AskOk a)
    (hw : -9223372036854775808 ≤ a.what ∧ a.what ≤ 9223372036854775807) (hn : -9223372036854775808 ≤ a.num ∧ a.num ≤ 9223372036854775807) (hs : size04 a ≤ 1000)
    {R : Value → Heap → Prop} (H : ∀ g' : GH, Mv [k] g g' → MakC g' c k p real seed (tellT real seed asked a).2 → R (.agg (tagA (tellT real seed asked a).1)) g'.h) : HC Try.prog F.law04_told #[.pointer (some ⟨p, 0, none⟩), .agg #[.int .i64 a.what, slV vk, slV vr, .int .i64 a.num]] R g.h := by
  refine law04_told.calls ?_
  unfold law04_told.body
  unfold size04 at hs
  obtain ⟨y, hy, hyn⟩ := fresh_exists g [c, k, d, e]
  obtain ⟨y2, hy2, hyn2⟩ := fresh_exists g [c, k, d, e, y]
  simp only [List.mem_cons, List.mem_nil_iff, or_false, not_or] at hyn hyn2
  have m := Mv.refl [k, y, y2] g
  rw [zTag]
  refine new_C g y fun q q1 m1 b1 => ?_
  replace m := m.step m1 (by simp)
  replace x := x.mv m1 (by simp) (by simp)
  refine new_C q1 y2 fun t q2 m2 b2 => ?_
  replace m := m.step m2 (by simp)
  replace b1 := b1.mv m2 (by simp)
  replace x := x.mv m2 (by simp) (by simp)
  replace rk := (rk.mv m1 (by simp)).mv m2 (by simp)
  replace rr := (rr.mv m1 (by simp)).mv m2 (by simp)
  rw [fldK_some, loadK_C b1]
  refine ⟨a.what, rfl, ?_⟩
  refine Pick_spec _ _ hw (by omega) ⟨_, rfl, ?_⟩
  have hre : ∀ j ∈ [k, y, y2], j ∈ [k] ∨ Fresh g j := by
    intro j hj
    simp only [List.mem_cons, List.mem_nil_iff, or_false] at hj
    rcases hj with rfl | rfl | rfl
    · exact .inl (by simp)
    · exact .inr hy
    · exact .inr hy2
  have fin : ∀ (q3 : GH) (u : List Int) (B : List ThingT), tellT real seed asked a = (u, B) → u.length = 32 → Mv [k] q2 q3 → MakC q3 c k p real seed B →
      storeAggK (sizeOfT Try.prog T.api_Tag) q3.h (some ⟨t, 0, none⟩) (tagA u) (fun (h : Heap) =>
      quietK Try.prog .agg (Instr.loadAt T.api_Tag (.pointer (some ⟨t, 0, none⟩))) (fun (r_9 : Array Value) =>
      R (.agg r_9) h) h) := by
    intro q3 u B e hu m3 x3
    refine result_C (n := 32) szTag dTag (b2.mv m3 (by simp [hyn2.2.1])) (by simp) (by simp [hu]) (fun v hv => oneBy _ v hv) fun q5 m5 => ?_
    have M := (m.step m3 (by simp)).step m5 (by simp)
    have := H (g.via q5 id) (M.re id hre) (by rw [e]; exact (x3.mv m5 (by simp [Ne.symm hyn2.1]) (by simp [Ne.symm hyn2.2.1])).re (φ := id) M (.inl rfl) (.inl rfl))
    rw [e] at this
    exact this
  dsimp only
  by_cases h0 : a.what % 3 = 0
  · rw [if_pos (by simpa using h0), fldK_some, loadK_C b1]
    refine ⟨vr, rfl, ?_⟩
    cases real with
    | true =>
      refine sumReal_spec x vr a.rows rr okA.rows (by omega) (by omega) fun q3 m3 => ⟨_, rfl, ?_⟩
      exact fin q3 _ asked (by simp [tellT, tellR, h0]) (shaB_length _) (m3.mono (by simp)) (x.mv m3 (by simp) (by simp))
    | false =>
      refine sumTab_spec hck x vr a.rows rr (by omega) (by omega) fun q3 m3 x3 => ⟨_, rfl, ?_⟩
      exact fin q3 _ _ (by simp [tellT, thingOf, h0]) (numT_length _) m3 x3
  · rw [if_neg (by simpa using h0)]
    by_cases h1 : a.what % 3 = 1
    · rw [if_pos (by simpa using h1), fldK_some, loadK_C b1]
      refine ⟨vk, rfl, ?_⟩
      rw [fldK_some, loadK_C b1]
      refine ⟨vr, rfl, ?_⟩
      cases real with
      | true =>
        refine macReal_spec x vk vr a.key a.rows rk hkc (by omega) okA.key rr okA.rows (by omega) (by omega) fun q3 m3 => ⟨_, rfl, ?_⟩
        exact fin q3 _ asked (by simp [tellT, tellR, h1]) (by simp [macB, shaB_length]) (m3.mono (by simp)) (x.mv m3 (by simp) (by simp))
      | false =>
        refine macTab_spec hck x vk vr a.key a.rows rk (by omega) rr (by omega) (by omega) fun q3 m3 x3 => ⟨_, rfl, ?_⟩
        exact fin q3 _ _ (by simp [tellT, thingOf, h1]) (numT_length _) m3 x3
    · rw [if_neg (by simpa using h1), fldK_some, loadK_C b1]
      refine ⟨a.num, rfl, ?_⟩
      cases real with
      | true =>
        refine drawReal_spec x a.num fun q3 m3 => ⟨_, rfl, ?_⟩
        exact fin q3 _ asked (by simp [tellT, tellR, h0, h1]) (shaB_length _) (m3.mono (by simp)) (x.mv m3 (by simp) (by simp))
      | false =>
        refine drawTab_spec hck x a.num hn fun q3 m3 x3 => ⟨_, rfl, ?_⟩
        exact fin q3 _ _ (by simp [tellT, thingOf, h0, h1]) (numT_length _) m3 x3

/-! ### One thing asked behind the other -/

def KT : List Nat := (List.range 1000).map (· + 1)
@[simp] theorem mem_KT (x : Nat) : x ∈ KT ↔ 1 ≤ x ∧ x ≤ 1000 := by
  unfold KT
  simp only [List.mem_map, List.mem_range]
  exact ⟨fun ⟨a, h, e⟩ => by omega, fun h => ⟨x - 1, by omega, by omega⟩⟩
def psiT (x : Nat) : Nat := if 100 ≤ x then 13 else x
theorem toldT_map (A : List ThingT) (f : ThingT → ThingT) (t : List Int) : toldT (A.map f) t = toldT A t := by unfold toldT; rw [List.length_map]

/-- What stands while one thing is asked. -/
structure TT (g q : GH) (pt pm pn pin : Nat) (real : Bool) (seed : List Int) (sd : Sl) (t : List Int) (Am An : List ThingT) (a : AskT) (sk sr : Sl) (sls : List Sl) (lo : Nat) : Prop where
  m : Mv KT g.base q
  bt : BlkC q 1 pt (tagA t) T.api_Tag
  xm : MakC q 2 3 pm real seed Am
  xn : MnC q 4 5 pn real sd (An.map rth)
  bin : BlkC q 7 pin #[.int .i64 a.what, slV sk, slV sr, .int .i64 a.num] T.zugzwanglaw04_Ask
  or_ : OwnC T.sl_uint8 1 q 13 sr (sls.map slV)
  rows : ∀ (n : Nat) (sl : Sl) (xs : List Int), lo ≤ n → sls[n]? = some sl → a.rows[n]? = some xs → LentBytesC q (100 + n) sl xs
section
variable {g q q' : GH} {pt pm pn pin : Nat} {real : Bool} {seed : List Int} {sd : Sl} {t : List Int} {Am An Bm Bn : List ThingT} {a : AskT} {sk sr : Sl} {sls : List Sl} {lo : Nat} {K : List Nat}
theorem TT.mv (x : TT g q pt pm pn pin real seed sd t Am An a sk sr sls lo) (m : Mv K q q') (hK : ∀ k ∈ K, k ∈ [6, 8, 9, 10, 11]) : TT g q' pt pm pn pin real seed sd t Am An a sk sr sls lo := by
  have no : ∀ j, j ∉ [6, 8, 9, 10, 11] → j ∉ K := fun j h h2 => h (hK j h2)
  exact ⟨x.m.step m fun k hk => by have := hK k hk; simp at this; simp; omega, x.bt.mv m (no _ (by simp)), x.xm.mv m (no _ (by simp)) (no _ (by simp)), x.xn.mv m (no _ (by simp)) (no _ (by simp)), x.bin.mv m (no _ (by simp)), x.or_.mv m (no _ (by simp)),
    fun n sl xs h h1 h2 => (x.rows n sl xs h h1 h2).mv m (no _ (by simp; omega))⟩
theorem TT.told (x : TT g q pt pm pn pin real seed sd t Am An a sk sr sls lo) (m : Mv [3] q q') (xm : MakC q' 2 3 pm real seed Bm) : TT g q' pt pm pn pin real seed sd t Bm An a sk sr sls lo :=
  ⟨x.m.step m (by simp), x.bt.mv m (by simp), xm, x.xn.mv m (by simp) (by simp), x.bin.mv m (by simp), x.or_.mv m (by simp), fun n sl xs h h1 h2 => (x.rows n sl xs h h1 h2).mv m (by simp; omega)⟩
theorem TT.meant (x : TT g q pt pm pn pin real seed sd t Am An a sk sr sls lo) (m : Mv [4, 5] q q') (xn : MnC q' 4 5 pn real sd (Bn.map rth)) : TT g q' pt pm pn pin real seed sd t Am Bn a sk sr sls lo :=
  ⟨x.m.step m (by simp), x.bt.mv m (by simp), x.xm.mv m (by simp) (by simp), xn, x.bin.mv m (by simp), x.or_.mv m (by simp), fun n sl xs h h1 h2 => (x.rows n sl xs h h1 h2).mv m (by simp; omega)⟩
end

set_option maxHeartbeats 8000000 in
set_option maxRecDepth 20000 in
theorem TagsTell_spec (g : GH) (mx : MaxC g 0) (real : Bool) (sd : Sl) (seed : List Int) (hsd : SlC g 0 (.int .u8) sd seed) (l : Sl) (xl : List AskT) (hl : SlC g 0 ShAsk l xl) (t : List Int) (okt : ShTag.ok t)
    {R : Value → Heap → Prop} (H : ∀ g' : GH, Mv [] g g' → R (.bool true) g'.h) : HC Try.prog F.law04_TagsTell #[.bool real, .slice sd.a sd.n sd.c, .slice l.a l.n l.c, .agg (tagA t)] R g.h := by
  refine law04_TagsTell.calls (seed1 := sd) (l2 := l) ?_
  unfold law04_TagsTell.body
  have htb := okTagB okt
  replace mx := mx.base
  have m := Mv.refl KT g.base
  refine new_C g.base 1 fun pt q1 m1 bt => ?_
  replace m := m.step m1 (by simp)
  have hsn := hsd.len
  have hss := hsd.small
  have fin : ∀ q : GH, Mv KT g.base q → R (.bool true) q.h := fun q m => H (g.via q fun _ => 0) (m.via (by simp) _)
  refine size04_spec l xl (hl.arg m (by simp)) fun n hn1 hn2 => ⟨_, rfl, ?_⟩
  dsimp only
  rw [wrapI64 (n := (n : Int) + (sd.n : Int)) (by omega) (by omega)]
  by_cases hbig : (n : Int) + (sd.n : Int) > 400
  · rw [if_pos (by simpa using hbig)]
    exact awake04_spec q1 fun q2 m2 => ⟨_, rfl, fin q2 (m.step m2 (by simp))⟩
  rw [if_neg (by simpa using hbig)]
  have hsz : sizes04 xl ≤ 400 := by have := hn2 (by omega); omega
  have hseed : seed.length ≤ 400 := by omega
  have hxl : xl.length ≤ 400 := by unfold sizes04 at hsz; omega
  have sdr : ∀ q : GH, Mv KT g.base q → RdC 1 q 0 sd (seed.map byV) := fun q m => hsd.ints.1.arg m (by simp)
  refine LentBytes_C q1 6 sd seed (sdr q1 m).rd (by omega) fun so q2 m2 own => ⟨so, rfl, ?_⟩
  replace m := m.step m2 (by simp)
  replace bt := bt.mv m2 (by simp)
  refine makNew_spec q2 2 3 real so seed own.rd (by omega) hsd.ints.2 fun pm q3 m3 xm => ⟨_, rfl, ?_⟩
  replace m := m.step m3 (by simp)
  replace bt := bt.mv m3 (by simp)
  replace own := own.mv m3 (by simp)
  refine ⟨#[.bool real, slV sd, slV ⟨none, 0, 0⟩], fun w => by kernel_rfl, ?_⟩
  refine new_C q3 4 fun pn q4 m4 bn => ?_
  replace m := m.step m4 (by simp)
  replace bt := bt.mv m4 (by simp)
  replace own := own.mv m4 (by simp)
  replace xm := xm.mv m4 (by simp) (by simp)
  have xn : MnC q4 4 5 pn real sd ([].map rth) := ⟨⟨none, 0, 0⟩, bn, OwnF.nil _ _ _ _⟩
  have hon := own.len
  refine OverBytes_C own.own (by omega) fun q5 m5 => ⟨(), rfl, ?_⟩
  replace m := m.step m5 (by simp)
  replace bt := bt.mv m5 (by simp)
  replace xm := xm.mv m5 (by simp) (by simp)
  replace xn := xn.mv m5 (by simp) (by simp)
  have hln := hl.len
  have sz : ∀ {i : Nat} (h : i < xl.length), size04 xl[i] ≤ 400 := fun h => by have := sizes04_get h; omega
  refine loopW_rule (fun st h' => ∃ (i : Nat) (q : GH) (A : List ThingT), i ≤ xl.length ∧ st = (i : Int) ∧ h' = q.h ∧ Mv KT g.base q ∧ BlkC q 1 pt (tagA t) T.api_Tag ∧ MakC q 2 3 pm real seed A ∧ MnC q 4 5 pn real sd (A.map rth) ∧ (∀ y ∈ A, Kinded y) ∧ A.length ≤ i)
      (fun st => xl.length - st.toNat) ⟨0, q5, [], by omega, rfl, rfl, m, bt, xm, xn, by simp, by simp⟩ ?_
  clear m m1 m2 m3 m4 m5 bt xm xn own bn
  rintro X _ _ ⟨i, q, A, hi, rfl, rfl, m, bt, xm, xn, hA, hAl⟩ hX
  try dsimp only
  by_cases hlt : i < xl.length
  · rw [if_pos (by simp; omega)]
    -- the thing that is asked, wherever it lies
    have at_ : ∀ {q : GH} (m : Mv KT g.base q) {K : Addr → Prop}, (∀ (b o : Nat) (vk vr : Sl), CellsC q 0 b o [.int .i64 xl[i].what, slV vk, slV vr, .int .i64 xl[i].num] → LayC q 0 ShAsk xl[i] [.int .i64 xl[i].what, slV vk, slV vr, .int .i64 xl[i].num] → RdC 1 q 0 vk (xl[i].key.map byV) → SlC q 0 (.sl (.int .u8)) vr xl[i].rows → vk.n ≤ vk.c → K ⟨b, o, none⟩) → idxK l (i : Int) (sizeOfT Try.prog T.zugzwanglaw04_Ask) K := by
      intro q m K h
      refine (hl.arg m (by simp)).idx (sizeAsk.trans rfl) (by decide) hlt fun b o cs rc lay => ?_
      obtain ⟨vk, vr, rfl, hk, hr, _, _⟩ := LayC.ask lay
      exact h b o vk vr rc lay hk.ints.1 hr hk.cap
    have okA : AskOk xl[i] := by
      have := hl.arg (Mv.refl [] g.base) (by simp)
      obtain ⟨v', css, _, h1, h2, h3, h4, _, hlay⟩ := this
      obtain ⟨cs, hcs⟩ : ∃ cs, css[i]? = some cs := ⟨css[i]'(by omega), List.getElem?_eq_getElem (by omega)⟩
      exact AskOk.of (hlay i xl[i] cs (List.getElem?_eq_getElem hlt) hcs)
    have hwn : (-9223372036854775808 ≤ xl[i].what ∧ xl[i].what ≤ 9223372036854775807) ∧ (-9223372036854775808 ≤ xl[i].num ∧ xl[i].num ≤ 9223372036854775807) := by
      have := hl.arg (Mv.refl [] g.base) (by simp)
      obtain ⟨v', css, _, h1, h2, h3, h4, _, hlay⟩ := this
      obtain ⟨cs, hcs⟩ : ∃ cs, css[i]? = some cs := ⟨css[i]'(by omega), List.getElem?_eq_getElem (by omega)⟩
      obtain ⟨_, _, _, _, _, hw, hn⟩ := LayC.ask (hlay i xl[i] cs (List.getElem?_eq_getElem hlt) hcs)
      exact ⟨hw, hn⟩
    have hgi := sz hlt
    have hg1 : size04 xl[i] = xl[i].key.length + xl[i].rows.length + total xl[i].rows := rfl
    have hAl' : A.length ≤ 400 := by omega
    have hrow : ∀ {n : Nat} (h : n < xl[i].rows.length), xl[i].rows[n].length ≤ 400 := fun {n} h => by
      have : xl[i].rows[n].length ≤ total xl[i].rows := by
        unfold total
        rw [List.length_flatten]
        exact le_of_mem_sum (List.mem_map.2 ⟨_, List.getElem_mem h, rfl⟩)
      omega
    generalize xl[i] = a at at_ okA hwn hgi hg1 hrow
    -- one of its rows
    have rowAt : ∀ {q : GH} {vr : Sl} (hr : SlC q 0 (.sl (.int .u8)) vr a.rows) {n : Nat} (hn : n < a.rows.length) {K : Addr → Prop}, (∀ (b o : Nat) (sv : Sl), CellsC q 0 b o [slV sv] → RdC 1 q 0 sv (a.rows[n].map byV) → sv.n ≤ sv.c → K ⟨b, o, none⟩) → idxK vr (n : Int) (sizeOfT Try.prog T.sl_uint8) K := by
      intro q vr hr n hn K h
      refine hr.idx (by kernel_rfl) (by decide) hn fun b o cs rc lay => ?_
      obtain ⟨sv, rfl, hsv⟩ := LayC.sl lay
      exact h b o sv rc hsv.ints.1 hsv.cap
    refine at_ m fun b o vk vr rc lay rk hr hc => ?_
    refine loadAggK_cells rc (j := 0) rfl (by rw [sizeAsk]; omega) (by rw [sizeAsk]; simp) ?_
    try rw [sizeAsk]
    try rw [zAsk]
    refine newStore_C q 7 (by rfl) (by rfl) (fun v hv => by simp at hv; rcases hv with rfl | rfl | rfl | rfl <;> rfl) fun pin q1 m1 bin => ?_
    have bin1 : BlkC q1 7 pin #[.int .i64 a.what, slV vk, slV vr, .int .i64 a.num] T.zugzwanglaw04_Ask := bin
    clear bin
    replace m := m.step m1 (by simp)
    replace bt := bt.mv m1 (by simp)
    replace xm := xm.mv m1 (by simp) (by simp)
    replace xn := xn.mv m1 (by simp) (by simp)
    clear rc lay rk hr hc
    refine at_ m fun b o vk2 vr2 rc lay rk hr hc => ?_
    rw [fldK_some]
    refine loadK_cells rc (k := .slice) (j := 1) vk2 rfl rfl ?_
    refine LentBytes_C q1 8 vk2 a.key rk.rd (by omega) fun sk q2 m2 lk => ⟨sk, rfl, ?_⟩
    replace m := m.step m2 (by simp)
    replace bt := bt.mv m2 (by simp)
    replace xm := xm.mv m2 (by simp) (by simp)
    replace xn := xn.mv m2 (by simp) (by simp)
    replace bin1 := bin1.mv m2 (by simp)
    clear rc lay rk hr hc
    simp only [fldK_some]
    refine store_C bin1 (by simp) rfl fun q3 m3 bin3 => ?_
    have bin3' : BlkC q3 7 pin #[.int .i64 a.what, slV sk, slV vr, .int .i64 a.num] T.zugzwanglaw04_Ask := bin3
    clear bin3
    replace m := m.step m3 (by simp)
    replace bt := bt.mv m3 (by simp)
    replace xm := xm.mv m3 (by simp) (by simp)
    replace xn := xn.mv m3 (by simp) (by simp)
    replace lk := lk.mv m3 (by simp)
    try simp only [fldK_some]
    refine store_C bin3' (by simp) rfl fun q4 m4 bin4 => ?_
    have bin4' : BlkC q4 7 pin #[.int .i64 a.what, slV sk, slV ⟨none, 0, 0⟩, .int .i64 a.num] T.zugzwanglaw04_Ask := bin4
    clear bin4
    replace m := m.step m4 (by simp)
    replace bt := bt.mv m4 (by simp)
    replace xm := xm.mv m4 (by simp) (by simp)
    replace xn := xn.mv m4 (by simp) (by simp)
    replace lk := lk.mv m4 (by simp)
    refine loopW_rule (fun st h' => ∃ (k : Nat) (q : GH) (sr : Sl) (sls : List Sl), k ≤ a.rows.length ∧ st = (k : Int) ∧ h' = q.h ∧ TT g q pt pm pn pin real seed sd t A A a sk sr sls 0 ∧ LentBytesC q 8 sk a.key ∧ sls.length = k)
        (fun st => a.rows.length - st.toNat) ⟨0, q4, ⟨none, 0, 0⟩, [], by omega, rfl, rfl, ⟨m, bt, xm, xn, bin4', OwnC.nil _ _ _ _, by simp⟩, lk, rfl⟩ ?_
    clear m m1 m2 m3 m4 bt xm xn bin1 bin3' bin4' lk
    rintro Y _ _ ⟨k, q, sr, sls, hk, rfl, rfl, tt, lk, hsl⟩ hY
    try dsimp only
    refine at_ tt.m fun b o vk vr rc lay rk hr hc => ?_
    simp only [fldK_some]
    refine loadK_cells rc (k := .slice) (j := 2) vr rfl rfl ?_
    have hrn := hr.len
    by_cases hkt : k < a.rows.length
    · rw [if_pos (by simp; omega)]
      refine at_ tt.m fun b2 o2 vk2 vr2 rc2 lay2 rk2 hr2 hc2 => ?_
      try simp only [fldK_some]
      rw [loadK_C tt.bin]
      refine ⟨sr, rfl, ?_⟩
      refine loadK_cells rc2 (k := .slice) (j := 2) vr2 rfl rfl ?_
      refine rowAt hr2 hkt fun b3 o3 sv rc3 rsv hsv => ?_
      refine loadK_cells rc3 (k := .slice) (j := 0) sv rfl rfl ?_
      have hr1 := hrow hkt
      refine LentBytes_C q (100 + k) sv a.rows[k] rsv.rd (by omega) fun sl q2 m2 lsl => ⟨sl, rfl, ?_⟩
      have tt2 := tt.mv m2 (by simp)
      have lk2 := lk.mv m2 (by simp)
      refine ⟨stillK_C tt2.bin rfl, ?_⟩
      refine newSl_C q2 11 rfl fun s3 q3 m3 o3 hn3 hc3 => ?_
      have tt3 := tt2.mv m3 (by simp)
      have lk3 := lk2.mv m3 (by simp)
      have lsl3 := lsl.mv m3 (by simp)
      have hor := tt3.or_.len
      simp only [List.length_map] at hor
      refine append_C (e := T.sl_uint8) (e2 := T.sl_uint8) (sz := 1) (by_ := 24) (z := .slice none 0 0) (by kernel_rfl) (by kernel_rfl) (by kernel_rfl) rfl (by omega) tt3.or_ o3.rd.rd (by intro v hv; simp at hv; subst hv; rfl) (by omega) fun s4 q4 m4 o4 hn4 _ => ?_
      refine store_C (tt3.bin.mv m4 (by simp)) (by simp) rfl fun q5 m5 b5 => ?_
      have b5' : BlkC q5 7 pin #[.int .i64 a.what, slV sk, slV s4, .int .i64 a.num] T.zugzwanglaw04_Ask := b5
      rw [wrapSucc (by omega)]
      have tt5 : TT g q5 pt pm pn pin real seed sd t A A a sk s4 (sls ++ [sl]) 0 := by
        have M := (tt3.m.step m4 (by simp)).step m5 (by simp)
        refine ⟨M, (tt3.bt.mv m4 (by simp)).mv m5 (by simp), (tt3.xm.mv m4 (by simp) (by simp)).mv m5 (by simp) (by simp), (tt3.xn.mv m4 (by simp) (by simp)).mv m5 (by simp) (by simp), b5', ?_, ?_⟩
        · have := o4.mv m5 (by simp)
          rw [List.map_append]
          exact this
        · intro n sl' xs h0 h1 h2
          refine LentBytesC.mv (LentBytesC.mv ?_ m4 (by simp; omega)) m5 (by simp; omega)
          by_cases e : n < sls.length
          · rw [List.getElem?_append_left e] at h1
            exact tt3.rows n sl' xs h0 h1 h2
          · rw [List.getElem?_append_right (by omega)] at h1
            have e0 : n - sls.length = 0 := by
              rcases Nat.eq_zero_or_pos (n - sls.length) with h | h
              · exact h
              · rw [List.getElem?_eq_none (by simp; omega)] at h1
                cases h1
            rw [e0] at h1
            simp only [List.getElem?_cons_zero, Option.some.injEq] at h1
            have en : n = k := by omega
            subst en
            rw [List.getElem?_eq_getElem hkt] at h2
            rw [← h1, ← Option.some.inj h2]
            exact lsl3
      exact hY _ _ ⟨k + 1, q5, s4, sls ++ [sl], by omega, rfl, rfl, tt5, (lk3.mv m4 (by simp)).mv m5 (by simp), by simp [hsl]⟩ (by simp; omega)
    · rw [if_neg (by simp; omega)]
      have hkk : sls.length = a.rows.length := by omega
      clear hY rc lay rk hr hc hrn
      have htg := tellT_tag real seed A a
      have hkd := tellT_kinded (real := real) (seed := seed) (a := a) hA
      have hAl2 := tellT_len real seed A a
      have hold : ∀ A' : List ThingT, A' = (tellT real seed A a).2 → True := fun _ _ => trivial
      generalize hte : tellT real seed A a = te at htg hkd hAl2
      obtain ⟨tg, A'⟩ := te
      dsimp only at htg hkd hAl2
      refine joinW_intro (fun s h' => ∃ (q' : GH) (pa pb ca cb : Nat), s = (some ⟨pa, 0, none⟩, some ⟨pb, 0, none⟩) ∧ h' = q'.h ∧ TT g q' pt pm pn pin real seed sd t A' A' a sk sr sls 0 ∧ LentBytesC q' 8 sk a.key ∧ BlkC q' ca pa (tagA tg) T.api_Tag ∧ BlkC q' cb pb (tagA tg) T.api_Tag ∧ True) ?_ ?_
      · intro J hJ
        refine at_ tt.m fun b o vk vr rc lay rk hr hc => ?_
        refine loadAgg_whole tt.bin (by first | rfl | (rw [sizeAsk]; rfl)) ?_
        refine loadAggK_cells rc (j := 0) rfl (by first | omega | (rw [sizeAsk]; omega)) (by first | (simp; done) | (rw [sizeAsk]; simp)) ?_
        try rw [sizeAsk]
        obtain ⟨S, hS⟩ : ∃ S : List ThingT → List ThingT → Option Nat → Option Nat → GH → Prop, ∀ Am An oa ob q, S Am An oa ob q ↔ (TT g q pt pm pn pin real seed sd t Am An a sk sr sls 0 ∧ LentBytesC q 8 sk a.key ∧ CellsC q 0 b o [.int .i64 a.what, slV vk, slV vr, .int .i64 a.num] ∧ LayC q 0 ShAsk a [.int .i64 a.what, slV vk, slV vr, .int .i64 a.num] ∧ (∀ p, oa = some p → BlkC q 9 p (Array.replicate 32 (.int .u8 0)) T.api_Tag) ∧ (∀ p, ob = some p → BlkC q 10 p (Array.replicate 32 (.int .u8 0)) T.api_Tag)) := ⟨fun Am An oa ob q => _, fun _ _ _ _ _ => Iff.rfl⟩
        have sT : ∀ {q : GH} {oa ob : Option Nat} {K : Array Value → Heap → Prop}, S A A oa ob q → (∀ q', S A' A oa ob q' → K (tagA tg) q'.h) → callK Try.prog .agg F.law04_told #[.pointer (some ⟨pm, 0, none⟩), .agg #[.int .i64 a.what, slV sk, slV sr, .int .i64 a.num]] K q.h := by
          intro q oa ob K s h
          obtain ⟨tt, lk, rc, lay, fa, fb⟩ := (hS _ _ _ _ _).1 s
          refine toldRaw_spec (g := GH.fold q psiT) (c := 2) (k := 3) (d := 13) (e := 8) (by decide) (foldMak tt.xm psiT rfl rfl) a sk sr (foldRd lk.rd psiT rfl) lk.cap ⟨sls, foldRd tt.or_.rd psiT rfl, hkk, fun n sl xs h1 h2 => ⟨foldRd (tt.rows n sl xs (by omega) h1 h2).rd psiT (by unfold psiT; simp), (tt.rows n sl xs (by omega) h1 h2).cap⟩⟩ okA hwn.1 hwn.2 (by omega) fun q2 m2 x2 => ⟨_, rfl, ?_⟩
          rw [hte] at x2 ⊢
          have M : Mv [3] q (q.via q2 id) := unfoldMv m2 fun x hx => by
            simp only [List.mem_singleton, psiT] at hx ⊢
            split at hx <;> omega
          have X2 := unfoldMak m2 x2 (fun x hx => by simp only [psiT] at hx; split at hx <;> omega) (fun x hx => by simp only [psiT] at hx; split at hx <;> omega)
          exact h (q.via q2 id) ((hS _ _ _ _ _).2 ⟨tt.told M X2, lk.mv M (by simp), rc.mv M (by simp), lay.mv M (by simp), fun p e => (fa p e).mv M (by simp), fun p e => (fb p e).mv M (by simp)⟩)
        have sM : ∀ {q : GH} {oa ob : Option Nat} {K : Array Value → Heap → Prop}, S A' A oa ob q → (∀ q', S A' A' oa ob q' → K (tagA tg) q'.h) → callK Try.prog .agg F.law04_meant #[.pointer (some ⟨pn, 0, none⟩), .agg ⟨[.int .i64 a.what, slV vk, slV vr, .int .i64 a.num]⟩] K q.h := by
          intro q oa ob K s h
          obtain ⟨tt, lk, rc, lay, fa, fb⟩ := (hS _ _ _ _ _).1 s
          refine meant_spec (by decide) tt.xn hA (by omega) lay (by omega) seed (sdr q tt.m) hsd.ints.2 (by omega) fun q2 m2 x2 => ⟨_, rfl, ?_⟩
          rw [hte] at x2 ⊢
          exact h q2 ((hS _ _ _ _ _).2 ⟨tt.meant m2 x2, lk.mv m2 (by simp), rc.mv m2 (by simp), lay.mv m2 (by simp), fun p e => (fa p e).mv m2 (by simp), fun p e => (fb p e).mv m2 (by simp)⟩)
        have sN1 : ∀ {q : GH} {Am An : List ThingT} {K : Option Addr → Heap → Prop}, S Am An none none q → (∀ (p : Nat) (q' : GH), S Am An (some p) none q' → K (some ⟨p, 0, none⟩) q'.h) → newK q.h (zerosOf Try.prog T.api_Tag) T.api_Tag K := by
          intro q Am An K s h
          obtain ⟨tt, lk, rc, lay, fa, fb⟩ := (hS _ _ _ _ _).1 s
          rw [zTag]
          refine new_C q 9 fun p q2 m2 b2 => ?_
          exact h p q2 ((hS _ _ _ _ _).2 ⟨tt.mv m2 (by simp), lk.mv m2 (by simp), rc.mv m2 (by simp), lay.mv m2 (by simp), fun p' e => (by cases e; exact b2), fun p' e => (by cases e)⟩)
        have sN2 : ∀ {q : GH} {Am An : List ThingT} {p1 : Nat} {K : Option Addr → Heap → Prop}, S Am An (some p1) none q → (∀ (p : Nat) (q' : GH), S Am An (some p1) (some p) q' → K (some ⟨p, 0, none⟩) q'.h) → newK q.h (zerosOf Try.prog T.api_Tag) T.api_Tag K := by
          intro q Am An p1 K s h
          obtain ⟨tt, lk, rc, lay, fa, fb⟩ := (hS _ _ _ _ _).1 s
          rw [zTag]
          refine new_C q 10 fun p q2 m2 b2 => ?_
          exact h p q2 ((hS _ _ _ _ _).2 ⟨tt.mv m2 (by simp), lk.mv m2 (by simp), rc.mv m2 (by simp), lay.mv m2 (by simp), fun p' e => (fa p' e).mv m2 (by simp), fun p' e => (by cases e; exact b2)⟩)
        have stl : ∀ {q : GH} {Am An : List ThingT} {oa ob : Option Nat}, S Am An oa ob q → stillAggK 4 q.h (some ⟨b, o, none⟩) ⟨[.int .i64 a.what, slV vk, slV vr, .int .i64 a.num]⟩ := by
          intro q Am An oa ob s
          obtain ⟨tt, lk, rc, lay, fa, fb⟩ := (hS _ _ _ _ _).1 s
          exact loadAggK_cells rc (j := 0) rfl (by omega) (by simp) rfl
        have fin1 : ∀ {q : GH} {p1 p2 : Nat}, S A' A' (some p1) (some p2) q → storeAggK (sizeOfT Try.prog T.api_Tag) q.h (some ⟨p1, 0, none⟩) (tagA tg) (fun h => storeAggK (sizeOfT Try.prog T.api_Tag) h (some ⟨p2, 0, none⟩) (tagA tg) (fun h => J (some ⟨p1, 0, none⟩, some ⟨p2, 0, none⟩) h)) := by
          intro q p1 p2 s
          obtain ⟨tt, lk, rc, lay, fa, fb⟩ := (hS _ _ _ _ _).1 s
          refine storeTag_C htg.1 (fa p1 rfl) fun q2 m2 b2 => ?_
          refine storeTag_C htg.1 ((fb p2 rfl).mv m2 (by simp)) fun q3 m3 b3 => ?_
          exact hJ _ _ ⟨q3, p1, p2, 9, 10, rfl, rfl, (tt.mv m2 (by simp)).mv m3 (by simp), (lk.mv m2 (by simp)).mv m3 (by simp), b2.mv m3 (by simp), b3, trivial⟩
        have fin2 : ∀ {q : GH} {p1 p2 : Nat}, S A' A' (some p1) (some p2) q → storeAggK (sizeOfT Try.prog T.api_Tag) q.h (some ⟨p2, 0, none⟩) (tagA tg) (fun h => storeAggK (sizeOfT Try.prog T.api_Tag) h (some ⟨p1, 0, none⟩) (tagA tg) (fun h => J (some ⟨p2, 0, none⟩, some ⟨p1, 0, none⟩) h)) := by
          intro q p1 p2 s
          obtain ⟨tt, lk, rc, lay, fa, fb⟩ := (hS _ _ _ _ _).1 s
          refine storeTag_C htg.1 (fb p2 rfl) fun q2 m2 b2 => ?_
          refine storeTag_C htg.1 ((fa p1 rfl).mv m2 (by simp)) fun q3 m3 b3 => ?_
          exact hJ _ _ ⟨q3, p2, p1, 10, 9, rfl, rfl, (tt.mv m2 (by simp)).mv m3 (by simp), (lk.mv m2 (by simp)).mv m3 (by simp), b2.mv m3 (by simp), b3, trivial⟩
        have st : S A A none none q := (hS _ _ _ _ _).2 ⟨tt, lk, rc, lay, fun _ e => (by cases e), fun _ e => (by cases e)⟩
        clear hS rc lay rk hr hc hJ
        have e4 : List.take 4 (List.drop 0 ([.int .i64 a.what, slV vk, slV vr, .int .i64 a.num] : List Value)) = [.int .i64 a.what, slV vk, slV vr, .int .i64 a.num] := rfl
        rw [e4]
        repeat' (first
          | exact fin1 st
          | exact fin2 st
          | exact stl st
          | (refine sT st ?_; intro q' st; try dsimp only)
          | (refine sM st ?_; intro q' st; try dsimp only)
          | (refine sN1 st ?_; intro p' q' st; try dsimp only)
          | (refine sN2 st ?_; intro p' q' st; try dsimp only)
          | refine And.intro ?_ ?_)
      clear tt lk
      rintro _ _ ⟨q, pa, pb, ca, cb, rfl, rfl, tt, lk, ba, bb, _⟩
      dsimp only
      refine loadAgg_whole ba (tagA_size htg.1) ?_
      refine loadAgg_whole bb (tagA_size htg.1) ?_
      refine tag_neq htg.1 htg.2 htg.1 htg.2 ?_
      rw [if_neg (by simp)]
      simp only [derefK_some, fldK_some]
      have hlen' : (A'.map rth).length ≤ 1000 := by simp; omega
      obtain ⟨sa, bn, on⟩ := tt.xn
      rw [loadK_C bn]
      refine ⟨sa, rfl, ?_⟩
      refine len_spec tt.xm ⟨_, rfl, ?_⟩
      refine ⟨stillK_C bn rfl, ?_⟩
      have hon := on.len
      rw [List.length_map] at hon
      rw [if_neg (by simp [hon])]
      clear bn on
      refine loadAgg_whole ba (tagA_size htg.1) ?_
      refine loadAgg_whole ba (tagA_size htg.1) ?_
      refine told_spec tt.xm tg htg.1 htg.2 fun q2 m2 => ⟨_, rfl, ?_⟩
      replace tt := tt.mv m2 (by simp)
      replace lk := lk.mv m2 (by simp)
      replace ba := ba.mv m2 (by simp)
      refine ⟨stillAgg_whole ba (tagA_size htg.1), ?_⟩
      refine refTold_spec tt.xn hlen' tg htg.1 htg.2 fun q3 m3 => ⟨_, rfl, ?_⟩
      replace tt := tt.mv m3 (by simp)
      replace lk := lk.mv m3 (by simp)
      rw [toldT_map]
      try dsimp only
      rw [if_neg (by simp)]
      refine loadAgg_whole tt.bt (tagA_size htb.1) ?_
      refine loadAgg_whole tt.bt (tagA_size htb.1) ?_
      refine told_spec tt.xm t htb.1 htb.2 fun q4 m4 => ⟨_, rfl, ?_⟩
      replace tt := tt.mv m4 (by simp)
      replace lk := lk.mv m4 (by simp)
      refine ⟨stillAgg_whole tt.bt (tagA_size htb.1), ?_⟩
      refine refTold_spec tt.xn hlen' t htb.1 htb.2 fun q5 m5 => ⟨_, rfl, ?_⟩
      replace tt := tt.mv m5 (by simp)
      replace lk := lk.mv m5 (by simp)
      rw [toldT_map]
      try dsimp only
      rw [if_neg (by simp)]
      refine real_spec tt.xm ⟨_, rfl, ?_⟩
      try dsimp only
      rw [if_neg (by simp)]
      refine at_ tt.m fun b o vk vr rc lay rk hr hc => ?_
      try simp only [fldK_some]
      rw [loadK_C tt.bin]
      refine ⟨sk, rfl, ?_⟩
      refine loadK_cells rc (k := .slice) (j := 1) vk rfl rfl ?_
      refine KeptBytes_spec sk vk a.key lk.lent rk.rd (by omega) ⟨true, rfl, ?_⟩
      try dsimp only
      rw [if_neg (by simp)]
      try simp only [fldK_some]
      rw [loadK_C tt.bin]
      refine ⟨sk, rfl, ?_⟩
      have hlkn := lk.len
      refine OverBytes_C lk.own (by omega) fun q6 m6 => ⟨(), rfl, ?_⟩
      replace tt := tt.mv m6 (by simp)
      clear rc lay rk hr hc lk ba bb
      refine loopW_rule (fun st h' => ∃ (k : Nat) (q : GH), k ≤ a.rows.length ∧ st = (k : Int) ∧ h' = q.h ∧ TT g q pt pm pn pin real seed sd t A' A' a sk sr sls k)
          (fun st => a.rows.length - st.toNat) ⟨0, q6, by omega, rfl, rfl, tt⟩ ?_
      clear tt m2 m3 m4 m5 m6
      rintro Z _ _ ⟨j, q, hj, rfl, rfl, tt⟩ hZ
      try dsimp only
      refine at_ tt.m fun b o vk vr rc lay rk hr hc => ?_
      simp only [fldK_some]
      refine loadK_cells rc (k := .slice) (j := 2) vr rfl rfl ?_
      have hrn := hr.len
      by_cases hjt : j < a.rows.length
      · rw [if_pos (by simp; omega)]
        have hjs : j < sls.length := by omega
        have hr1 := hrow hjt
        have lsl := tt.rows j sls[j] a.rows[j] (Nat.le_refl _) (List.getElem?_eq_getElem hjs) (List.getElem?_eq_getElem hjt)
        have hrb := okA.rows _ (List.getElem_mem hjt)
        refine at_ tt.m fun b2 o2 vk2 vr2 rc2 lay2 rk2 hr2 hc2 => ?_
        try simp only [fldK_some]
        rw [loadK_C tt.bin]
        refine ⟨sr, rfl, ?_⟩
        refine idxLoad_C tt.or_.rd (by kernel_rfl) (by omega) sls[j] (by simp [List.getElem?_eq_getElem hjs, Kd.inj, slV]) ?_
        refine loadK_cells rc2 (k := .slice) (j := 2) vr2 rfl rfl ?_
        refine rowAt hr2 hjt fun b3 o3 sv rc3 rsv hsv => ?_
        refine loadK_cells rc3 (k := .slice) (j := 0) sv rfl rfl ?_
        refine KeptBytes_spec sls[j] sv a.rows[j] lsl.lent rsv.rd (by omega) ⟨true, rfl, ?_⟩
        try dsimp only
        rw [if_neg (by simp)]
        clear rc lay rk hr hc rc2 lay2 rk2 hr2 hc2 rc3 rsv hsv
        refine at_ tt.m fun b o vk vr rc lay rk hr hc => ?_
        simp only [fldK_some]
        refine at_ tt.m fun b2 o2 vk2 vr2 rc2 lay2 rk2 hr2 hc2 => ?_
        try simp only [fldK_some]
        refine loadK_cells rc (k := .slice) (j := 2) vr rfl rfl ?_
        refine rowAt hr hjt fun b3 o3 sv rc3 rsv hsv => ?_
        refine loadK_cells rc3 (k := .slice) (j := 0) sv rfl rfl ?_
        refine loadK_cells rc2 (k := .slice) (j := 2) vr2 rfl rfl ?_
        refine rowAt hr2 hjt fun b4 o4 sv4 rc4 rsv4 hsv4 => ?_
        refine loadK_cells rc4 (k := .slice) (j := 0) sv4 rfl rfl ?_
        refine tagsMark_spec (mx.mv tt.m (by simp)) rsv hsv hrb (by omega) fun q7 m7 => ⟨_, rfl, ?_⟩
        refine ⟨stillK_cells (rc4.mv m7 (by simp)) (j := 0) rfl rfl, stillK_cells (rc2.mv m7 (by simp)) (j := 2) rfl rfl, ?_⟩
        refine refMark_spec (rsv4.mv m7 (by simp)) hsv4 hrb (by omega) ⟨_, rfl, ?_⟩
        try dsimp only
        rw [if_neg (by simp)]
        try simp only [fldK_some]
        have tt7 := tt.mv m7 (by simp)
        rw [loadK_C tt7.bin]
        refine ⟨sr, rfl, ?_⟩
        refine idxLoad_C tt7.or_.rd (by kernel_rfl) (by omega) sls[j] (by simp [List.getElem?_eq_getElem hjs, Kd.inj, slV]) ?_
        have lsl7 := lsl.mv m7 (by simp)
        have hsn7 := lsl7.len
        refine OverBytes_C lsl7.own (by omega) fun q8 m8 => ⟨(), rfl, ?_⟩
        rw [wrapSucc (by omega)]
        refine hZ _ _ ⟨j + 1, q8, by omega, rfl, rfl, ⟨tt7.m.step m8 (by simp; omega), tt7.bt.mv m8 (by simp; omega), tt7.xm.mv m8 (by simp; omega) (by simp; omega), tt7.xn.mv m8 (by simp; omega) (by simp; omega), tt7.bin.mv m8 (by simp; omega), tt7.or_.mv m8 (by simp; omega), fun n sl xs h h1 h2 => (tt7.rows n sl xs (by omega) h1 h2).mv m8 (by simp; omega)⟩⟩ (by simp; omega)
      · rw [if_neg (by simp; omega), wrapSucc (by omega)]
        exact hX _ _ ⟨i + 1, q, A', by omega, rfl, rfl, tt.m, tt.bt, tt.xm, tt.xn, hkd, by omega⟩ (by simp; omega)
  · rw [if_neg (by simp; omega)]
    refine tagsMark_spec (mx.mv m (by simp)) (sdr q m) hsd.cap hsd.ints.2 (by omega) fun q6 m6 => ⟨_, rfl, ?_⟩
    refine refMark_spec ((sdr q m).mv m6 (by simp)) hsd.cap hsd.ints.2 (by omega) ⟨_, rfl, ?_⟩
    try dsimp only
    rw [if_pos (by simp)]
    exact awake04_spec q6 fun q7 m7 => ⟨_, rfl, fin q7 ((m.step m6 (by simp)).step m7 (by simp))⟩

theorem TagsTell_walk {h : Heap} (mx : MaxC ⟨h, fun _ => 0⟩ 0) (real : Bool) (a : Option Addr) (la ca : Nat) (x : List Int) (w : Lay h (.sl (.int .u8)) x [.slice a la ca]) (b : Option Addr) (lb cb : Nat) (y : List AskT) (w' : Lay h (.sl ShAsk) y [.slice b lb cb]) (t : Array Value) (z : List Int) (w2 : Lay h ShTag z t.toList) :
    HC Try.prog F.law04_TagsTell #[.bool real, .slice a la ca, .slice b lb cb, .agg t] (fun v h' => v = .bool true ∧ Ext h h') h := by
  obtain ⟨t⟩ := t
  obtain ⟨rfl, ok⟩ := LayC.enc (s := ShTag) rfl (w2.arg (Mv.refl [] ⟨h, fun _ => 0⟩) (by simp))
  rw [← tagEnc]
  exact TagsTell_spec ⟨h, fun _ => 0⟩ mx real ⟨a, la, ca⟩ x (w.arg (Mv.refl [] _) (by simp)) ⟨b, lb, cb⟩ y (w'.arg (Mv.refl [] _) (by simp)) z ok fun g' m => ⟨rfl, m.ext (by simp)⟩
end Go.Proofs.Ytgdkaljbjhbeiaa
