/-
  What tables tell of what is asked.
-/
import Derived.Test.YtgdkaljbjhbeiaaKLaw04
import Derived.Test.YtgdkaljbjhbeiaaKThings
set_option linter.unusedSimpArgs false
set_option linter.unusedVariables false
namespace Go.Proofs.Ytgdkaljbjhbeiaa
open Go Go.Ev

def thingOf (a : AskT) : ShThing.T := if a.what % 3 = 0 then thS a.rows.flatten else if a.what % 3 = 1 then thM a.key a.rows.flatten else thD a.num
def alikeT (a b : AskT) : Bool := if ¬ a.what % 3 = b.what % 3 then false else if a.what % 3 = 2 then decide (a.num = b.num) else if a.rows.flatten = b.rows.flatten then (if a.what % 3 = 0 then true else decide (a.key = b.key)) else false
/-- Bytes are bytes. -/
structure AskOk (a : AskT) : Prop where
  key : ∀ x ∈ a.key, isByte x
  rows : ∀ xs ∈ a.rows, ∀ x ∈ xs, isByte x
  flat : ∀ x ∈ a.rows.flatten, isByte x
theorem AskOk.of {g : GH} {c : Nat} {a : AskT} {cs : List Value} (l : LayC g c ShAsk a cs) : AskOk a := by
  obtain ⟨vk, vr, _, hk, hr, _, _⟩ := LayC.ask l
  refine ⟨hk.ints.2, hr.rows.2.1, fun x hx => ?_⟩
  obtain ⟨xs, h1, h2⟩ := List.mem_flatten.1 hx
  exact hr.rows.2.1 xs h1 x h2
theorem alikeT_iff {a b : AskT} (ha : AskOk a) (hb : AskOk b) : alikeT a b = true ↔ thingOf a = thingOf b := by
  have a0 := Int.emod_nonneg a.what (b := 3) (by omega)
  have a1 := Int.emod_lt_of_pos a.what (b := 3) (by omega)
  have b0 := Int.emod_nonneg b.what (b := 3) (by omega)
  have b1 := Int.emod_lt_of_pos b.what (b := 3) (by omega)
  have hS : thS a.rows.flatten = thS b.rows.flatten ↔ a.rows.flatten = b.rows.flatten := ⟨fun h => strOf_inj ha.flat hb.flat (congrArg (fun x : ShThing.T => x.2.2.1) h), fun h => by rw [h]⟩
  have hM : thM a.key a.rows.flatten = thM b.key b.rows.flatten ↔ a.key = b.key ∧ a.rows.flatten = b.rows.flatten :=
    ⟨fun h => ⟨strOf_inj ha.key hb.key (congrArg (fun x : ShThing.T => x.2.1) h), strOf_inj ha.flat hb.flat (congrArg (fun x : ShThing.T => x.2.2.1) h)⟩, fun h => by rw [h.1, h.2]⟩
  have hD : thD a.num = thD b.num ↔ a.num = b.num := ⟨fun h => congrArg (fun x : ShThing.T => x.2.2.2.1) h, fun h => by rw [h]⟩
  have n1 : ∀ x y z : List Int, ¬ thS x = thM y z := fun x y z h => absurd (congrArg (fun x : ShThing.T => x.1) h) (by show ¬ (115 : Int) = 109; decide)
  have n2 : ∀ (x : List Int) (n : Int), ¬ thS x = thD n := fun x n h => absurd (congrArg (fun x : ShThing.T => x.1) h) (by show ¬ (115 : Int) = 100; decide)
  have n3 : ∀ (x y : List Int) (n : Int), ¬ thM x y = thD n := fun x y n h => absurd (congrArg (fun x : ShThing.T => x.1) h) (by show ¬ (109 : Int) = 100; decide)
  unfold alikeT thingOf
  have ca : a.what % 3 = 0 ∨ a.what % 3 = 1 ∨ a.what % 3 = 2 := by omega
  have cb : b.what % 3 = 0 ∨ b.what % 3 = 1 ∨ b.what % 3 = 2 := by omega
  rcases ca with h | h | h <;> rcases cb with k | k | k <;> simp [h, k, hS, hM, hD, n1, n2, n3, fun x y z => Ne.symm (n1 x y z), fun x n => Ne.symm (n2 x n), fun x y n => Ne.symm (n3 x y n), eq_comm (a := thM _ _) (b := thS _), eq_comm (a := thD _) (b := thS _), eq_comm (a := thD _) (b := thM _ _)]
  · exact And.comm

set_option maxRecDepth 100000 in
theorem toldN_small : ∀ n : Fin 1001, toldN (numT ((n.val : Nat) : Int)) = (n.val : Int) := by decide +kernel
theorem toldT_num {A : List ShThing.T} {j : Nat} (hj : j ≤ 1000) : toldT A (numT (j : Int)) = decide (j < A.length) := by
  have h := toldN_small ⟨j, by omega⟩
  dsimp only at h
  unfold toldT
  rw [h]
  by_cases h2 : j < A.length
  · simp [h2]
  · simp [h2]

theorem told04T_spec {g : GH} {c k p d : Nat} (hck : ¬ c = k) {seed : List Int} {asked : List ShThing.T} (x : MakC g c k p false seed asked) {a : AskT} {cs : List Value} (lay : LayC g d ShAsk a cs) (h1 : a.key.length ≤ 70000000) (h2 : total a.rows ≤ 70000000) (h3 : a.rows.length ≤ 10000000)
    {R : Value → Heap → Prop} (H : ∀ g' : GH, Mv [k] g g' → MakC g' c k p false seed (askT asked (thingOf a)).2 → R (.agg (tagA (numT (askT asked (thingOf a)).1))) g'.h) : HC Try.prog F.law04_told #[.pointer (some ⟨p, 0, none⟩), .agg ⟨cs⟩] R g.h := by
  refine law04_told.calls ?_
  unfold law04_told.body
  obtain ⟨y, hy, hyn⟩ := fresh_exists g [c, k, d]
  obtain ⟨y2, hy2, hyn2⟩ := fresh_exists g [c, k, d, y]
  simp only [List.mem_cons, List.mem_nil_iff, or_false, not_or] at hyn hyn2
  obtain ⟨vk, vr, rfl, hk, hr, hw, hn⟩ := LayC.ask lay
  have m := Mv.refl [k, y, y2] g
  rw [zTag]
  refine new_C g y fun q q1 m1 b1 => ?_
  replace m := m.step m1 (by simp)
  replace x := x.mv m1 (by simp) (by simp)
  refine new_C q1 y2 fun t q2 m2 b2 => ?_
  replace m := m.step m2 (by simp)
  replace b1 := b1.mv m2 (by simp)
  replace x := x.mv m2 (by simp) (by simp)
  rw [fldK_some, loadK_C b1]
  refine ⟨a.what, rfl, ?_⟩
  refine Pick_spec _ _ hw (by omega) ⟨_, rfl, ?_⟩
  obtain ⟨rk, hkb, _⟩ : RdC 1 g d vk (a.key.map byV) ∧ (∀ x ∈ a.key, isByte x) ∧ True := ⟨hk.ints.1, hk.ints.2, trivial⟩
  obtain ⟨rr, hrb, _⟩ := hr.rows
  replace rk := (rk.mv m1 (by simp)).mv m2 (by simp)
  replace rr := (rr.mv m1 (by simp)).mv m2 (by simp)
  have hre : ∀ j ∈ [k, y, y2], j ∈ [k] ∨ Fresh g j := by
    intro j hj
    simp only [List.mem_cons, List.mem_nil_iff, or_false] at hj
    rcases hj with rfl | rfl | rfl
    · exact .inl (by simp)
    · exact .inr hy
    · exact .inr hy2
  have fin : ∀ q3 : GH, Mv [k] q2 q3 → ∀ u : ShThing.T, thingOf a = u → MakC q3 c k p false seed (askT asked u).2 →
      storeAggK (sizeOfT Try.prog T.api_Tag) q3.h (some ⟨t, 0, none⟩) (tagA (numT (askT asked u).1)) (fun (h : Heap) =>
      quietK Try.prog .agg (Instr.loadAt T.api_Tag (.pointer (some ⟨t, 0, none⟩))) (fun (r_9 : Array Value) =>
      R (.agg r_9) h) h) := by
    intro q3 m3 u hu x3
    subst hu
    refine result_C (n := 32) szTag dTag (b2.mv m3 (by simp [Ne.symm hyn2.2.1, hyn2.2.1])) (by simp) (by simp [numT_length]) (fun v hv => oneBy _ v hv) fun q5 m5 => ?_
    have M := (m.step m3 (by simp)).step m5 (by simp)
    have x5 := x3.mv m5 (by simp [Ne.symm hyn2.1]) (by simp [Ne.symm hyn2.2.1])
    exact H (g.via q5 id) (M.re id hre) (x5.re (φ := id) M (.inl rfl) (.inl rfl))
  by_cases h0 : a.what % 3 = 0
  · rw [if_pos (by simpa using h0), fldK_some, loadK_C b1]
    refine ⟨vr, rfl, ?_⟩
    refine sumTab_spec hck x vr a.rows rr (by omega) (by omega) fun q3 m3 x3 => ⟨_, rfl, ?_⟩
    exact fin q3 m3 _ (by simp [thingOf, h0]) x3
  · rw [if_neg (by simpa using h0)]
    by_cases h1' : a.what % 3 = 1
    · rw [if_pos (by simpa using h1'), fldK_some, loadK_C b1]
      refine ⟨vk, rfl, ?_⟩
      rw [fldK_some, loadK_C b1]
      refine ⟨vr, rfl, ?_⟩
      refine macTab_spec hck x vk vr a.key a.rows rk h1 rr (by omega) (by omega) fun q3 m3 x3 => ⟨_, rfl, ?_⟩
      exact fin q3 m3 _ (by simp [thingOf, h1']) x3
    · rw [if_neg (by simpa using h1'), fldK_some, loadK_C b1]
      refine ⟨a.num, rfl, ?_⟩
      refine drawTab_spec hck x a.num hn fun q3 m3 x3 => ⟨_, rfl, ?_⟩
      exact fin q3 m3 _ (by simp [thingOf, h0, h1']) x3

theorem alike_spec {g : GH} {d e : Nat} {a b : AskT} {ca cb : List Value} (la : LayC g d ShAsk a ca) (lb : LayC g e ShAsk b cb) (ha : size04 a ≤ 1000) (hb : size04 b ≤ 1000) {R : Value → Heap → Prop}
    (H : ∀ g' : GH, Mv [] g g' → R (.bool (alikeT a b)) g'.h) : HC Try.prog F.law04_alike #[.agg ⟨ca⟩, .agg ⟨cb⟩] R g.h := by
  refine law04_alike.calls ?_
  unfold law04_alike.body
  obtain ⟨ak, ar, rfl, hak, har, haw, han⟩ := LayC.ask la
  obtain ⟨bk, br, rfl, hbk, hbr, hbw, hbn⟩ := LayC.ask lb
  unfold size04 at ha hb
  have m := Mv.refl [1, 2, 3, 4] g.base
  refine new_C g.base 1 fun pa q1 m1 b1 => ?_
  replace m := m.step m1 (by simp)
  refine new_C q1 2 fun pb q2 m2 b2 => ?_
  replace m := m.step m2 (by simp)
  replace b1 := b1.mv m2 (by simp)
  have fin : ∀ (q : GH) (r : Bool), Mv [1, 2, 3, 4] g.base q → alikeT a b = r → R (.bool r) q.h := fun q r mq hr => by
    have := H (g.via q fun _ => 0) (mq.via (by simp) _)
    rw [hr] at this
    exact this
  simp only [fldK_some]
  rw [loadK_C b1]
  refine ⟨a.what, rfl, ?_⟩
  refine Pick_spec _ _ haw (by omega) ⟨_, rfl, ?_⟩
  dsimp only
  rw [loadK_C b2]
  refine ⟨b.what, rfl, ?_⟩
  refine Pick_spec _ _ hbw (by omega) ⟨_, rfl, ?_⟩
  dsimp only
  by_cases hw : a.what % 3 = b.what % 3
  · rw [if_neg (by simp [hw])]
    by_cases h2 : a.what % 3 = 2
    · rw [if_pos (by simp [h2])]
      rw [loadK_C b1]
      refine ⟨a.num, rfl, ?_⟩
      rw [loadK_C b2]
      refine ⟨b.num, rfl, ?_⟩
      refine fin q2 _ m ?_
      unfold alikeT
      rw [if_neg (by simp [hw]), if_pos h2]
      by_cases e : a.num = b.num <;> simp [e]
    · rw [if_neg (by simp [h2])]
      rw [loadK_C b1]
      refine ⟨ar, rfl, ?_⟩
      rw [loadK_C b2]
      refine ⟨br, rfl, ?_⟩
      have rra := har.rows.1
      have rrb := hbr.rows.1
      have fa : a.rows.flatten.length = total a.rows := by simp [total, List.length_flatten]
      have fb : b.rows.flatten.length = total b.rows := by simp [total, List.length_flatten]
      refine Join02_spec q2 3 ar a.rows (rra.arg m (by simp)) (by omega) (by omega) fun s3 q3 m3 o3 => ⟨_, rfl, ?_⟩
      replace m := m.step m3 (by simp)
      replace b1 := b1.mv m3 (by simp)
      replace b2 := b2.mv m3 (by simp)
      refine ⟨stillK_C b2 rfl, ?_⟩
      refine Join02_spec q3 3 br b.rows (rrb.arg m (by simp)) (by omega) (by omega) fun s4 q4 m4 o4 => ⟨_, rfl, ?_⟩
      replace m := m.step m4 (by simp)
      replace b1 := b1.mv m4 (by simp)
      replace b2 := b2.mv m4 (by simp)
      replace o3 := o3.mv m4 (by simp)
      refine SameBytes_spec s3 s4 a.rows.flatten b.rows.flatten o3.rd.rd o4.rd.rd (by omega) (by omega) ⟨_, rfl, ?_⟩
      dsimp only
      by_cases hr : a.rows.flatten = b.rows.flatten
      · rw [if_pos (by simpa using hr)]
        by_cases h0 : a.what % 3 = 0
        · rw [if_pos (by simp [h0])]
          exact fin q4 true m (by unfold alikeT; rw [if_neg (by simp [hw]), if_neg h2, if_pos hr, if_pos h0])
        · rw [if_neg (by simp [h0])]
          rw [loadK_C b1]
          refine ⟨ak, rfl, ?_⟩
          rw [loadK_C b2]
          refine ⟨bk, rfl, ?_⟩
          refine SameBytes_spec ak bk a.key b.key (hak.ints.1.arg m (by simp)).rd (hbk.ints.1.arg m (by simp)).rd (by omega) (by omega) ⟨_, rfl, ?_⟩
          exact fin q4 _ m (by unfold alikeT; rw [if_neg (by simp [hw]), if_neg h2, if_pos hr, if_neg h0])
      · rw [if_neg (by simpa using hr)]
        exact fin q4 false m (by unfold alikeT; rw [if_neg (by simp [hw]), if_neg h2, if_neg hr])
  · rw [if_pos (by simpa using hw)]
    exact fin q2 false m (by unfold alikeT; rw [if_pos hw])

end Go.Proofs.Ytgdkaljbjhbeiaa
