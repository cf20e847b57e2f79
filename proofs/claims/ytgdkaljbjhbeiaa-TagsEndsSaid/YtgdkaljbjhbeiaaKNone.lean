/-
  A maker that is none.
-/
import Derived.Test.YtgdkaljbjhbeiaaKTags
set_option linter.unusedSimpArgs false
set_option linter.unusedVariables false
namespace Go.Proofs.Ytgdkaljbjhbeiaa
open Go Go.Ev

/-- No maker: nil, or one that was not made. -/
def NoC (g : GH) (c : Nat) (v : Option Addr) : Prop := v = none ∨ ∃ (p : Nat) (cells : Array Value) (e : TypeId), v = some ⟨p, 0, none⟩ ∧ BlkC g c p cells e ∧ cells[0]? = some (.map none)
theorem NoC.mv {K : List Nat} {g g' : GH} {c : Nat} {v : Option Addr} (x : NoC g c v) (m : Mv K g g') (h : c ∉ K) : NoC g' c v := by
  rcases x with h0 | ⟨p, cells, e, h1, b, h2⟩
  · exact .inl h0
  · exact .inr ⟨p, cells, e, h1, b.mv m h, h2⟩
theorem noThere_spec {g : GH} {c : Nat} {v : Option Addr} (x : NoC g c v) {R : Value → Heap → Prop} (H : R (.bool false) g.h) : HC Try.prog F.tags_Maker_there #[.pointer v] R g.h := by
  rcases x with rfl | ⟨p, cells, e, rfl, b, h2⟩
  · exact thereNil_spec H
  · refine tags_Maker_there.calls ?_
    unfold tags_Maker_there.body
    rw [if_pos (by rfl), derefK_some, fldK_some, fldK_some, loadK_C b]
    exact ⟨none, h2, H⟩
theorem bldTag0 (w : World) : (Instr.build T.api_Tag #[]).run Try.prog w = .ok (.agg (tagA (List.replicate 32 0))) w := by kernel_rfl
theorem noSum_spec {g : GH} {c : Nat} {v : Option Addr} (x : NoC g c v) (s : Sl) {R : Value → Heap → Prop} (H : ∀ g' : GH, Mv [] g g' → R (.agg (tagA (List.replicate 32 0))) g'.h) : HC Try.prog F.tags_Maker_Sum #[.pointer v, .slice s.a s.n s.c] R g.h := by
  refine tags_Maker_Sum.calls (rows1 := s) ?_
  unfold tags_Maker_Sum.body
  obtain ⟨y, hy, hyn⟩ := fresh_exists g [c]
  have m := Mv.refl [y] g
  refine new_C g y fun t q1 m1 bt => ?_
  replace m := m.step m1 (by simp)
  refine noThere_spec (x.mv m1 (by simp)) ⟨_, rfl, ?_⟩
  try dsimp only
  rw [if_pos (by rfl)]
  refine ⟨_, bldTag0, ?_⟩
  rw [zTag] at bt
  refine result_C (n := 32) szTag dTag bt (by simp) (by simp) (fun v hv => oneBy _ v hv) fun q2 m2 => ?_
  replace m := m.step m2 (by simp)
  exact H (g.via q2 id) (m.re id fun k hk => .inr (by simp only [List.mem_singleton] at hk; rw [hk]; exact hy))
theorem noMac_spec {g : GH} {c : Nat} {v : Option Addr} (x : NoC g c v) (ks s : Sl) {R : Value → Heap → Prop} (H : ∀ g' : GH, Mv [] g g' → R (.agg (tagA (List.replicate 32 0))) g'.h) : HC Try.prog F.tags_Maker_Mac #[.pointer v, .slice ks.a ks.n ks.c, .slice s.a s.n s.c] R g.h := by
  refine tags_Maker_Mac.calls (key1 := ks) (rows2 := s) ?_
  unfold tags_Maker_Mac.body
  obtain ⟨y, hy, hyn⟩ := fresh_exists g [c]
  have m := Mv.refl [y] g
  refine new_C g y fun t q1 m1 bt => ?_
  replace m := m.step m1 (by simp)
  refine noThere_spec (x.mv m1 (by simp)) ⟨_, rfl, ?_⟩
  try dsimp only
  rw [if_pos (by rfl)]
  refine ⟨_, bldTag0, ?_⟩
  rw [zTag] at bt
  refine result_C (n := 32) szTag dTag bt (by simp) (by simp) (fun v hv => oneBy _ v hv) fun q2 m2 => ?_
  replace m := m.step m2 (by simp)
  exact H (g.via q2 id) (m.re id fun k hk => .inr (by simp only [List.mem_singleton] at hk; rw [hk]; exact hy))
theorem noDraw_spec {g : GH} {c : Nat} {v : Option Addr} (x : NoC g c v) (n : Int) {R : Value → Heap → Prop} (H : ∀ g' : GH, Mv [] g g' → R (.agg (tagA (List.replicate 32 0))) g'.h) : HC Try.prog F.tags_Maker_Draw #[.pointer v, .int .i64 n] R g.h := by
  refine tags_Maker_Draw.calls ?_
  unfold tags_Maker_Draw.body
  obtain ⟨y, hy, hyn⟩ := fresh_exists g [c]
  have m := Mv.refl [y] g
  refine new_C g y fun t q1 m1 bt => ?_
  replace m := m.step m1 (by simp)
  refine noThere_spec (x.mv m1 (by simp)) ⟨_, rfl, ?_⟩
  try dsimp only
  rw [if_pos (by rfl)]
  refine ⟨_, bldTag0, ?_⟩
  rw [zTag] at bt
  refine result_C (n := 32) szTag dTag bt (by simp) (by simp) (fun v hv => oneBy _ v hv) fun q2 m2 => ?_
  replace m := m.step m2 (by simp)
  exact H (g.via q2 id) (m.re id fun k hk => .inr (by simp only [List.mem_singleton] at hk; rw [hk]; exact hy))
theorem noReal_spec {g : GH} {c : Nat} {v : Option Addr} (x : NoC g c v) {R : Value → Heap → Prop} (H : R (.bool false) g.h) : HC Try.prog F.tags_Maker_Real #[.pointer v] R g.h := by
  refine tags_Maker_Real.calls ?_
  unfold tags_Maker_Real.body
  refine noThere_spec x ⟨_, rfl, ?_⟩
  try dsimp only
  rw [if_neg (by simp)]
  exact H
theorem noLen_spec {g : GH} {c : Nat} {v : Option Addr} (x : NoC g c v) {R : Value → Heap → Prop} (H : R (.int .i64 0) g.h) : HC Try.prog F.tags_Maker_Len #[.pointer v] R g.h := by
  refine tags_Maker_Len.calls ?_
  unfold tags_Maker_Len.body
  refine noThere_spec x ⟨_, rfl, ?_⟩
  try dsimp only
  rw [if_pos (by rfl)]
  exact H
theorem noTold_spec {g : GH} {c : Nat} {v : Option Addr} (x : NoC g c v) (t : Array Value) {R : Value → Heap → Prop} (H : ∀ g' : GH, Mv [] g g' → R (.bool false) g'.h) : HC Try.prog F.tags_Maker_Told #[.pointer v, .agg t] R g.h := by
  refine tags_Maker_Told.calls ?_
  unfold tags_Maker_Told.body
  refine new_C g c fun p q1 m1 bt => ?_
  refine noThere_spec (x.mv m1 (by simp)) ⟨_, rfl, ?_⟩
  try dsimp only
  rw [if_neg (by simp)]
  exact H q1 m1
theorem noCopy_spec {g : GH} {c : Nat} {v : Option Addr} (x : NoC g c v) {R : Value → Heap → Prop} (H : R (.pointer none) g.h) : HC Try.prog F.tags_Maker_Copy #[.pointer v] R g.h := by
  refine tags_Maker_Copy.calls ?_
  unfold tags_Maker_Copy.body
  refine noThere_spec x ⟨_, rfl, ?_⟩
  try dsimp only
  rw [if_pos (by rfl)]
  exact H

end Go.Proofs.Ytgdkaljbjhbeiaa
