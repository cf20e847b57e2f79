/-
  Envelopes: why, take, make.
-/
import Derived.Test.YtejjeggaofpbiaaKSeal
import Derived.Test.YtejjeggaofpbiaaMaps
set_option linter.unusedSimpArgs false
set_option linter.unusedVariables false
namespace Go.Proofs.Ytejjeggaofpbiaa
open Go Go.Ev

/-- What an entry does: in which state, how far behind. -/
def deedT (n : Int) : Int × Int := if n = 5 then (1, 0) else if n = 6 then (2, 1) else if n = 7 then (3, 2) else if n = 1 ∨ n = 2 ∨ n = 3 then (1, 0) else (0, 0)
def deedF (n : Int) : Value := if n = 5 then .func (.func F.seal_Envelope_sealed) #[] #[] else if n = 6 then .func (.func F.seal_Envelope_resumed) #[] #[] else if n = 7 then .func (.func F.seal_Envelope_opens) #[] #[] else if n = 1 ∨ n = 2 ∨ n = 3 ∨ n = 4 then .func (.func F.seal_Envelope_plain) #[] #[] else .nilFunc
def deedA (n : Int) : Array Value := #[.int .i64 (deedT n).1, .int .i64 (deedT n).2, deedF n]
abbrev deedsL : List MapEntry := [⟨.int .i64 5, .agg (deedA 5), 0⟩, ⟨.int .i64 6, .agg (deedA 6), 1⟩, ⟨.int .i64 7, .agg (deedA 7), 2⟩, ⟨.int .i64 4, .agg (deedA 4), 3⟩, ⟨.int .i64 1, .agg (deedA 1), 4⟩, ⟨.int .i64 2, .agg (deedA 2), 5⟩, ⟨.int .i64 3, .agg (deedA 3), 6⟩]
abbrev mapT24 : TypeId := T.map_aapi_Say_seal_deed
theorem uMap24 : Try.prog.underlying mapT24 = some (.map T.api_Say T.seal_deed) := by kernel_rfl
theorem uSay24 : Try.prog.underlying T.api_Say = some (.int .i64) := by kernel_rfl
theorem ckSay24 (n : Int) (b : Bool) (w : World) : (Instr.checkKey b 10000 T.api_Say (.int .i64 n)).run Try.prog w = .ok () w := by kernel_rfl
theorem bldDeed (a b : Int) (f : FuncId) (w : World) : (Instr.build T.seal_deed #[(0, .int .i64 a), (1, .int .i64 b), (2, .func (.func f) #[] #[])]).run Try.prog w = .ok (.agg #[.int .i64 a, .int .i64 b, .func (.func f) #[] #[]]) w := by kernel_rfl
theorem zDeed : zerosOf Try.prog T.seal_deed = deedA 0 := by kernel_rfl
theorem szDeed : sizeOfT Try.prog T.seal_deed = 3 := by kernel_rfl
theorem deed_one (n : Int) : ∀ v ∈ (deedA n).toList, v.oneCell' = true := by
  intro v hv
  simp only [deedA, List.mem_cons, List.mem_nil_iff, or_false] at hv
  rcases hv with rfl | rfl | rfl
  · rfl
  · rfl
  · unfold deedF; split; rfl; split; rfl; split; rfl; split <;> rfl
theorem deeds_spec (g : GH) (c : Nat) {R : Value → Heap → Prop} (H : ∀ (r : Nat) (g' : GH), Mv [] g g' → MapC g' c r deedsL 7 → R (.map (some r)) g'.h) : HC Try.prog F.seal_deeds #[] R g.h := by
  refine seal_deeds.calls ?_
  unfold seal_deeds.body
  have m : Mv [1, 2] g.base g.base := Mv.refl _ _
  refine ⟨_, bldDeed 1 0 _, ?_⟩
  refine newStore_C g.base 2 (by rw [szDeed]; rfl) (by rw [szDeed]; kernel_rfl) (fun v hv => deed_one 1 v hv) fun pd q0 m0 bd => ?_
  replace m := m.step m0 (by simp)
  refine makeMap_C q0 1 fun r q0 m0 x => ?_
  replace m := m.step m0 (by simp)
  replace bd := bd.mv m0 (by simp)
  refine ⟨_, bldDeed 1 0 _, ?_⟩
  refine mapNew_C x uMap24 (ckSay24 5 false) (findKey_now uSay24 rfl) fun q1 m1 x => ?_
  replace m := m.step m1 (by simp)
  replace bd := bd.mv m1 (by simp)
  refine ⟨_, bldDeed 2 1 _, ?_⟩
  refine mapNew_C x uMap24 (ckSay24 6 false) (findKey_now uSay24 rfl) fun q1 m1 x => ?_
  replace m := m.step m1 (by simp)
  replace bd := bd.mv m1 (by simp)
  refine ⟨_, bldDeed 3 2 _, ?_⟩
  refine mapNew_C x uMap24 (ckSay24 7 false) (findKey_now uSay24 rfl) fun q1 m1 x => ?_
  replace m := m.step m1 (by simp)
  replace bd := bd.mv m1 (by simp)
  refine ⟨_, bldDeed 0 0 _, ?_⟩
  refine mapNew_C x uMap24 (ckSay24 4 false) (findKey_now uSay24 rfl) fun q1 m1 x => ?_
  replace m := m.step m1 (by simp)
  replace bd := bd.mv m1 (by simp)
  refine loadAgg_whole bd (by rw [szDeed]; rfl) ?_
  refine mapNew_C x uMap24 (ckSay24 1 false) (findKey_now uSay24 rfl) fun q1 m1 x => ?_
  replace m := m.step m1 (by simp)
  replace bd := bd.mv m1 (by simp)
  refine loadAgg_whole bd (by rw [szDeed]; rfl) ?_
  refine mapNew_C x uMap24 (ckSay24 2 false) (findKey_now uSay24 rfl) fun q1 m1 x => ?_
  replace m := m.step m1 (by simp)
  replace bd := bd.mv m1 (by simp)
  refine loadAgg_whole bd (by rw [szDeed]; rfl) ?_
  refine mapNew_C x uMap24 (ckSay24 3 false) (findKey_now uSay24 rfl) fun q1 m1 x => ?_
  replace m := m.step m1 (by simp)
  exact H r (g.via q1 fun _ => c) (m.via (by simp) _) (x.via m (by simp) _)
theorem lookupNone_C {P : Program} {t kt e : TypeId} {k : Kd} {g : GH} {c r : Nat} {es : List MapEntry} {n : Nat} {key : Value} (y : MapC g c r es n) (hu : P.underlying t = some (.map kt e)) (hck : ∀ (b : Bool) (w : World), (Instr.checkKey b 10000 kt key).run P w = .ok () w)
    (x : k.T) (hf : ∀ w : World, (Instr.findKey kt key es).run P w = .ok none w) (hz : ∀ w : World, (zeroValue e).run P w = .ok (k.inj x) w) {K : k.T → Prop} (H : K x) : quietK P k (Instr.lookup t (.map (some r)) key false) K g.h := by
  refine ⟨x, fun w hw => ?_, H⟩
  have hget : w.heap[r]? = some (.map ⟨es⟩ n) := by rw [hw]; exact y.at_
  unfold Instr.lookup
  simp only [Sem.run_bind, Sem.run_pure, run_underlying hu, Result.andThen_ok, run_getObj hget, hck, hf, hz, Bool.false_eq_true, if_false]
theorem deedLook {g : GH} {c r : Nat} (y : MapC g c r deedsL 7) (n : Int) {K : Array Value → Prop} (H : K (deedA n)) : quietK Try.prog .agg (Instr.lookup mapT24 (.map (some r)) (.int .i64 n) false) K g.h := by
  by_cases h5 : n = 5
  · subst h5; exact lookup_C (k := .agg) (i := 0) y uMap24 (ckSay24 5) (deedA 5) (findKey_now uSay24 rfl) H
  by_cases h6 : n = 6
  · subst h6; exact lookup_C (k := .agg) (i := 1) y uMap24 (ckSay24 6) (deedA 6) (findKey_now uSay24 rfl) H
  by_cases h7 : n = 7
  · subst h7; exact lookup_C (k := .agg) (i := 2) y uMap24 (ckSay24 7) (deedA 7) (findKey_now uSay24 rfl) H
  by_cases h4 : n = 4
  · subst h4; exact lookup_C (k := .agg) (i := 3) y uMap24 (ckSay24 4) (deedA 4) (findKey_now uSay24 rfl) H
  by_cases h1 : n = 1
  · subst h1; exact lookup_C (k := .agg) (i := 4) y uMap24 (ckSay24 1) (deedA 1) (findKey_now uSay24 rfl) H
  by_cases h2 : n = 2
  · subst h2; exact lookup_C (k := .agg) (i := 5) y uMap24 (ckSay24 2) (deedA 2) (findKey_now uSay24 rfl) H
  by_cases h3 : n = 3
  · subst h3; exact lookup_C (k := .agg) (i := 6) y uMap24 (ckSay24 3) (deedA 3) (findKey_now uSay24 rfl) H
  have hn : Instr.findNow (.int .i64) (.int .i64 n) deedsL 0 = some none := by
    have b : ∀ k : Int, ¬ n = k → (n == k) = false := fun k hk => by simpa using hk
    simp only [Instr.findNow, Instr.sameNow, b 1 h1, b 2 h2, b 3 h3, b 4 h4, b 5 h5, b 6 h6, b 7 h7, if_true]
  have e : deedA n = deedA 0 := by
    unfold deedA deedT deedF
    simp [h1, h2, h3, h4, h5, h6, h7]
  rw [e] at H
  exact lookupNone_C (k := .agg) y uMap24 (ckSay24 n) (deedA 0) (findKey_now uSay24 hn) (fun w => by kernel_rfl) H

/-! ### Why -/
def whyT24 (real : Bool) (A : List ShThing.T) (x : EnvT) (e : EntryT) : Int × List ShThing.T :=
  if ¬ entryOk e = true then (2, A) else if ¬ e.game = x.game then (14, A)
  else if ¬ (deedT e.what.say).1 = 0 ∧ ¬ (deedT e.what.say).1 = x.state then (18, A)
  else if (deedT e.what.say).2 > 0 ∧ ¬ e.number = IntKind.i64.wrap (x.no + (deedT e.what.say).2) then (11, A)
  else if (deedT e.what.say).1 = 3 then (if fitsT x.tag (moveT22 real A x.game x.no e.what.move e.what.nonce).1 (moveT22 real A x.game x.no e.what.move e.what.nonce).2.1 = 0 then 0 else 16, (moveT22 real A x.game x.no e.what.move e.what.nonce).2.2)
  else (0, A)

theorem fits24_spec {g : GH} {c k ce p pm : Nat} (hck : ¬ c = k) (hce : ¬ ce = k) {x : EnvT} (v : EnvC g ce p pm x) {real : Bool} {seed : List Int} {A : List ShThing.T} (xm : MakC g c k pm real seed A) (b : BodyT) (ok : ShBody.ok b) {R : Value → Heap → Prop}
    (H : ∀ g' : GH, Mv [k] g g' → MakC g' c k pm real seed (moveT22 real A x.game x.no b.move b.nonce).2.2 → R (.bool (decide (fitsT x.tag (moveT22 real A x.game x.no b.move b.nonce).1 (moveT22 real A x.game x.no b.move b.nonce).2.1 = 0))) g'.h) :
    HC Try.prog F.seal_wax_fits #[.pointer (some ⟨p, 0, none⟩), .agg ⟨ShBody.enc b⟩] R g.h := by
  refine seal_wax_fits.calls ?_
  unfold seal_wax_fits.body
  obtain ⟨y, hy, hyn⟩ := fresh_exists g [c, k, ce]
  simp only [List.mem_cons, List.mem_nil_iff, or_false, not_or] at hyn
  have m := Mv.refl [k, y] g
  refine new_C g y fun pb q1 m1 bb => ?_
  replace m := m.step m1 (by simp)
  have v1 := (v.mv m1 (by simp)).parts
  have B := bodyAt ok (blkCells bb)
  simp only [derefK_some, fldK_some]
  have te : ∀ u : List Int, (⟨ShTag.enc u⟩ : Array Value) = tagA u := fun u => by rw [encTag]
  refine loadK_cells v1.maker (some ⟨pm, 0, none⟩ : Option Addr) (j := 0) (k := .ptr) rfl rfl ?_
  refine loadTagAt (cellsTo v1.tag (by omega)) v.ok.2.2.1 ?_
  refine loadTagAt (cellsTo v1.game (by omega)) v.ok.1 ?_
  refine loadK_cells v1.no x.no (j := 0) (k := .int .i64) rfl rfl ?_
  refine loadMoveAt (cellsTo B.move (by omega)) ?_
  refine loadTagAt (cellsTo B.nonce (by omega)) ok.2.2.2.2.2.1 ?_
  rw [te, te, te]
  refine openMove_spec hck (xm.mv m1 (by simp) (by simp)) x.tag v.ok.2.2.1 x.game v.ok.1 x.no b.move ok.2.1 b.nonce ok.2.2.2.2.2.1 fun q2 m2 xm2 => ⟨_, rfl, ?_⟩
  replace m := m.step m2 (by simp)
  try dsimp only
  have := H (g.via q2 id) (m.re id fun j hj => by
    simp only [List.mem_cons, List.mem_nil_iff, or_false] at hj
    rcases hj with rfl | rfl
    · exact .inl (by simp)
    · exact .inr hy) (xm2.re (φ := id) m (.inl rfl) (.inl rfl))
  have eb : ∀ n : Int, (n == 0) = decide (n = 0) := fun n => rfl
  rw [eb]
  exact this

set_option maxHeartbeats 1000000 in
theorem envWhy_spec {g : GH} {c k ce p pm : Nat} (hck : ¬ c = k) (hce : ¬ ce = k) {x : EnvT} (v : EnvC g ce p pm x) {real : Bool} {seed : List Int} {A : List ShThing.T} (xm : MakC g c k pm real seed A) (e : EntryT) (ok : ShEntry.ok e) {R : Value → Heap → Prop}
    (H : ∀ g' : GH, Mv [k] g g' → MakC g' c k pm real seed (whyT24 real A x e).2 → R (.int .i64 (whyT24 real A x e).1) g'.h) :
    HC Try.prog F.seal_Envelope_Why #[.pointer (some ⟨p, 0, none⟩), .agg ⟨ShEntry.enc e⟩] R g.h := by
  refine seal_Envelope_Why.calls ?_
  unfold seal_Envelope_Why.body
  obtain ⟨y, hy, hyn⟩ := fresh_exists g [c, k, ce]
  obtain ⟨y2, hy2, hyn2⟩ := fresh_exists g [c, k, ce, y]
  simp only [List.mem_cons, List.mem_nil_iff, or_false, not_or] at hyn hyn2
  have m := Mv.refl [k, y, y2] g
  have hre : ∀ j ∈ [k, y, y2], j ∈ [k] ∨ Fresh g j := by
    intro j hj
    simp only [List.mem_cons, List.mem_nil_iff, or_false] at hj
    rcases hj with rfl | rfl | rfl
    · exact .inl (by simp)
    · exact .inr hy
    · exact .inr hy2
  refine new_C g y fun pe q1 m1 be => ?_
  replace m := m.step m1 (by simp)
  replace v := v.mv m1 (by simp)
  replace xm := xm.mv m1 (by simp) (by simp)
  refine envMade_spec v ⟨_, rfl, ?_⟩
  try dsimp only
  rw [if_neg (by simp)]
  refine joinW_intro (fun s h' => ∃ (q : GH) (pd : Nat) (te : TypeId), s = some ⟨pd, 0, none⟩ ∧ h' = q.h ∧ Mv [y2] q1 q ∧ BlkC q y2 pd (deedA e.what.say) te) ?_ ?_
  · intro J hJ
    have E := entryAt ok (blkCells be)
    have B := bodyAt ok.2.2.2.1 E.what
    simp only [fldK_some]
    have still : ∀ q : GH, Mv [y2] q1 q → stillK (.int .i64) q.h (some ⟨pe, 0 + 65 + 0, none⟩) e.what.say := fun q mq =>
      stillK_cells (bodyAt ok.2.2.2.1 (entryAt ok (blkCells (be.mv mq (by simp [Ne.symm hyn2.2.2.2])))).what).say (j := 0) (by omega) rfl
    refine loadK_cells B.say e.what.say (j := 0) (k := .int .i64) (by omega) rfl ?_
    refine ⟨?_, ?_⟩
    · refine deeds_spec q1 y2 fun r q2 m2 xr => ⟨some r, rfl, ?_⟩
      refine ⟨still q2 (m2.mono (by simp)), ?_, ?_⟩
      · refine deedLook xr _ ?_
        refine newStore_C q2 y2 (by rw [szDeed]; rfl) (by rw [szDeed]; kernel_rfl) (deed_one _) fun pd q3 m3 bd => ?_
        exact hJ _ _ ⟨q3, pd, _, rfl, rfl, m2.then m3 (by simp), bd⟩
      · refine new_C q2 y2 fun pd q3 m3 bd => ?_
        refine deedLook (xr.mv m3 (by simp)) _ ?_
        refine storeAgg_C bd (by rw [szDeed]; rfl) (by rw [szDeed, zDeed]; decide) (deed_one _) fun q4 m4 bd => ?_
        rw [overA_all (by rw [zDeed]; rfl)] at bd
        exact hJ _ _ ⟨q4, pd, _, rfl, rfl, (m2.step m3 (L := []) (by simp)).then m4 (by simp), bd⟩
    · refine new_C q1 y2 fun pd q3 m3 bd => ?_
      refine deeds_spec q3 y fun r q2 m2 xr => ⟨some r, rfl, ?_⟩
      refine ⟨still q2 (m3.then m2 (by simp)), ?_⟩
      refine deedLook xr _ ?_
      refine storeAgg_C (bd.mv m2 (by simp)) (by rw [szDeed]; rfl) (by rw [szDeed, zDeed]; decide) (deed_one _) fun q4 m4 bd => ?_
      rw [overA_all (by rw [zDeed]; rfl)] at bd
      exact hJ _ _ ⟨q4, pd, _, rfl, rfl, (m3.step m2 (L := []) (by simp)).then m4 (by simp), bd⟩
  rintro _ _ ⟨q2, pd, td, rfl, rfl, m2, bd⟩
  replace m := m.step m2 (by simp)
  replace v := v.mv m2 (by simp [Ne.symm hyn2.2.2.1])
  replace xm := xm.mv m2 (by simp [Ne.symm hyn2.1]) (by simp [Ne.symm hyn2.2.1])
  replace be := be.mv m2 (by simp [Ne.symm hyn2.2.2.2])
  refine loadAgg_whole be (by rw [szEntry]; simpa using (lenEntry ok).symm) ?_
  refine msgEntry_spec q2 e ok fun q3 m3 => ⟨_, rfl, ?_⟩
  replace m := m.step m3 (by simp)
  replace v := v.mv m3 (by simp)
  replace xm := xm.mv m3 (by simp) (by simp)
  replace be := be.mv m3 (by simp)
  replace bd := bd.mv m3 (by simp)
  try dsimp only
  have E := entryAt ok (blkCells be)
  have B := bodyAt ok.2.2.2.1 E.what
  have V := v.parts
  have H3 : ∀ z : Int × List ShThing.T, whyT24 real A x e = z → z.2 = A → R (.int .i64 z.1) q3.h := by
    intro z hz hA
    have := H (g.via q3 id) (m.re id hre) (by rw [hz, hA]; exact xm.re (φ := id) m (.inl rfl) (.inl rfl))
    rw [hz] at this
    exact this
  by_cases hok : entryOk e = true
  rotate_left
  · rw [if_pos (by simpa using hok)]
    exact H3 (2, A) (by unfold whyT24; rw [if_pos hok]) rfl
  rw [if_neg (by simpa using hok)]
  simp only [derefK_some, fldK_some]
  refine loadTagAt (cellsTo E.game (by omega)) ok.1 ?_
  refine loadTagAt (cellsTo V.game (by omega)) v.ok.1 ?_
  refine neqF_Tag ok.1 v.ok.1 fun r hr => ?_
  by_cases hg : e.game = x.game
  rotate_left
  · rw [if_pos (hr.2 hg)]
    exact H3 (14, A) (by unfold whyT24; rw [if_neg (by simp [hok]), if_pos hg]) rfl
  rw [if_neg (fun h => hr.1 h hg)]
  refine joinW_intro (fun s h' => s = decide (¬ (deedT e.what.say).1 = 0 ∧ ¬ (deedT e.what.say).1 = x.state) ∧ h' = q3.h) ?_ ?_
  · intro J hJ
    rw [loadK_C bd]
    refine ⟨(deedT e.what.say).1, rfl, ?_⟩
    by_cases h0 : (deedT e.what.say).1 = 0
    · rw [if_neg (by simp [h0])]
      exact hJ _ _ ⟨by simp [h0], rfl⟩
    · rw [if_pos (by simp [h0])]
      rw [loadK_C bd]
      refine ⟨(deedT e.what.say).1, rfl, ?_⟩
      refine loadK_cells V.state x.state (j := 0) (k := .int .i64) rfl rfl ?_
      exact hJ _ _ ⟨by simp [h0]; rfl, rfl⟩
  rintro _ _ ⟨rfl, rfl⟩
  try dsimp only
  by_cases h18 : ¬ (deedT e.what.say).1 = 0 ∧ ¬ (deedT e.what.say).1 = x.state
  · rw [if_pos (by simpa using h18)]
    exact H3 (18, A) (by unfold whyT24; rw [if_neg (by simp [hok]), if_neg (by simp [hg]), if_pos h18]) rfl
  rw [if_neg (by simpa using h18)]
  refine joinW_intro (fun s h' => s = decide ((deedT e.what.say).2 > 0 ∧ ¬ e.number = IntKind.i64.wrap (x.no + (deedT e.what.say).2)) ∧ h' = q3.h) ?_ ?_
  · intro J hJ
    rw [loadK_C bd]
    refine ⟨(deedT e.what.say).2, rfl, ?_⟩
    by_cases h0 : (deedT e.what.say).2 > 0
    · rw [if_pos (by simpa using h0)]
      refine loadK_cells E.number e.number (j := 0) (k := .int .i64) rfl rfl ?_
      refine loadK_cells V.no x.no (j := 0) (k := .int .i64) rfl rfl ?_
      rw [loadK_C bd]
      refine ⟨(deedT e.what.say).2, rfl, ?_⟩
      exact hJ _ _ ⟨by simp only [h0, true_and]; rw [Bool.eq_iff_iff]; simp, rfl⟩
    · rw [if_neg (by simpa using h0)]
      exact hJ _ _ ⟨by simp [h0], rfl⟩
  rintro _ _ ⟨rfl, rfl⟩
  try dsimp only
  by_cases h11 : (deedT e.what.say).2 > 0 ∧ ¬ e.number = IntKind.i64.wrap (x.no + (deedT e.what.say).2)
  · rw [if_pos (by simpa using h11)]
    exact H3 (11, A) (by unfold whyT24; rw [if_neg (by simp [hok]), if_neg (by simp [hg]), if_neg h18, if_pos h11]) rfl
  rw [if_neg (by simpa using h11)]
  rw [loadK_C bd]
  refine ⟨(deedT e.what.say).1, rfl, ?_⟩
  by_cases h3 : (deedT e.what.say).1 = 3
  rotate_left
  · rw [if_neg (by simpa using h3)]
    exact H3 (0, A) (by unfold whyT24; rw [if_neg (by simp [hok]), if_neg (by simp [hg]), if_neg h18, if_neg h11, if_neg h3]) rfl
  rw [if_pos (by simpa using h3)]
  refine loadBodyAt (cellsTo E.what (by omega)) ok.2.2.2.1 ?_
  refine fits24_spec hck hce v xm e.what ok.2.2.2.1 fun q4 m4 xm4 => ⟨_, rfl, ?_⟩
  replace m := m.step m4 (by simp)
  try dsimp only
  have hw : whyT24 real A x e = (if fitsT x.tag (moveT22 real A x.game x.no e.what.move e.what.nonce).1 (moveT22 real A x.game x.no e.what.move e.what.nonce).2.1 = 0 then 0 else 16, (moveT22 real A x.game x.no e.what.move e.what.nonce).2.2) := by
    unfold whyT24; rw [if_neg (by simp [hok]), if_neg (by simp [hg]), if_neg h18, if_neg h11, if_pos h3]
  have H4 := H (g.via q4 id) (m.re id hre) (by rw [hw]; exact xm4.re (φ := id) m (.inl rfl) (.inl rfl))
  rw [hw] at H4
  by_cases hf : fitsT x.tag (moveT22 real A x.game x.no e.what.move e.what.nonce).1 (moveT22 real A x.game x.no e.what.move e.what.nonce).2.1 = 0
  · rw [if_neg (by simpa using hf)]
    rw [if_pos hf] at H4
    exact H4
  · rw [if_pos (by simpa using hf)]
    rw [if_neg hf] at H4
    exact H4

/-! ### Take -/
def takeT24 (real : Bool) : List ShThing.T → EnvT → List EntryT → Int × List ShThing.T × EnvT
  | A, x, [] => (0, A, x)
  | A, x, e :: l => if (whyT24 real A x e).1 = 0 then takeT24 real (whyT24 real A x e).2 (does24 x e) l else ((whyT24 real A x e).1, (whyT24 real A x e).2, x)
theorem takeT24_nil (real : Bool) (A : List ShThing.T) (x : EnvT) : takeT24 real A x [] = (0, A, x) := rfl
theorem takeT24_cons (real : Bool) (A : List ShThing.T) (x : EnvT) (e : EntryT) (l : List EntryT) : takeT24 real A x (e :: l) = if (whyT24 real A x e).1 = 0 then takeT24 real (whyT24 real A x e).2 (does24 x e) l else ((whyT24 real A x e).1, (whyT24 real A x e).2, x) := rfl
theorem deedF_good {n : Int} (h : n = 1 ∨ n = 2 ∨ n = 3 ∨ n = 4 ∨ n = 5 ∨ n = 6 ∨ n = 7) {g : GH} {ce p pm : Nat} {x : EnvT} (v : EnvC g ce p pm x) (e : EntryT) (ok : ShEntry.ok e) (hn : e.what.say = n) {K : Unit → Heap → Prop}
    (H : ∀ g' : GH, Mv [ce] g g' → EnvC g' ce p pm (does24 x e) → K () g'.h) : callV Try.prog .unit (deedF n) #[.pointer (some ⟨p, 0, none⟩), .agg ⟨ShEntry.enc e⟩] K g.h := by
  unfold does24 at H
  rw [hn] at H
  rcases h with rfl | rfl | rfl | rfl | rfl | rfl | rfl
  · exact .inl ⟨_, _, _, rfl, envPlain_spec _ _ fun g' m => ⟨(), rfl, H g' (m.mono (by simp)) (v.mv m (by simp))⟩⟩
  · exact .inl ⟨_, _, _, rfl, envPlain_spec _ _ fun g' m => ⟨(), rfl, H g' (m.mono (by simp)) (v.mv m (by simp))⟩⟩
  · exact .inl ⟨_, _, _, rfl, envPlain_spec _ _ fun g' m => ⟨(), rfl, H g' (m.mono (by simp)) (v.mv m (by simp))⟩⟩
  · exact .inl ⟨_, _, _, rfl, envPlain_spec _ _ fun g' m => ⟨(), rfl, H g' (m.mono (by simp)) (v.mv m (by simp))⟩⟩
  · exact .inl ⟨_, _, _, rfl, envSealed_spec v e ok fun g' m v' => ⟨(), rfl, H g' m v'⟩⟩
  · exact .inl ⟨_, _, _, rfl, envResumed_spec v _ fun g' m v' => ⟨(), rfl, H g' m v'⟩⟩
  · exact .inl ⟨_, _, _, rfl, envOpens_spec v e ok fun g' m v' => ⟨(), rfl, H g' m v'⟩⟩
theorem sayGood {e : EntryT} (h : entryOk e = true) : e.what.say = 1 ∨ e.what.say = 2 ∨ e.what.say = 3 ∨ e.what.say = 4 ∨ e.what.say = 5 ∨ e.what.say = 6 ∨ e.what.say = 7 := by
  unfold entryOk bodyOk namedD at h
  simp only [Bool.and_eq_true] at h
  obtain ⟨_, _, h, _⟩ := h
  split at h
  · omega
  split at h
  · omega
  split at h
  · omega
  split at h
  · omega
  · simp only [Bool.or_eq_true, beq_iff_eq] at h
    omega
theorem whyGood {real : Bool} {A : List ShThing.T} {x : EnvT} {e : EntryT} (h : (whyT24 real A x e).1 = 0) : entryOk e = true := by
  by_cases hk : entryOk e = true
  · exact hk
  · unfold whyT24 at h
    rw [if_pos hk] at h
    cases h
theorem does24_state {x : EnvT} {e : EntryT} (h : 1 ≤ x.state ∧ x.state ≤ 3) : 1 ≤ (does24 x e).state ∧ (does24 x e).state ≤ 3 := by
  unfold does24
  split
  · exact (show (1 : Int) ≤ 2 ∧ (2 : Int) ≤ 3 by decide)
  split
  · exact (show (1 : Int) ≤ 3 ∧ (3 : Int) ≤ 3 by decide)
  split
  · exact (show (1 : Int) ≤ 1 ∧ (1 : Int) ≤ 3 by decide)
  · exact h

set_option maxHeartbeats 1000000 in
theorem envTake_spec {g : GH} {c k ce p pm d : Nat} (hck : ¬ c = k) (hce : ¬ ce = k) (hcc : ¬ ce = c) (hdk : ¬ d = k) (hdc : ¬ d = ce) {x : EnvT} (v : EnvC g ce p pm x) {real : Bool} {seed : List Int} {A : List ShThing.T} (xm : MakC g c k pm real seed A) (s : Sl) (xs : List EntryT) (hr : SlC g d ShEntry s xs) {R : Value → Heap → Prop}
    (H : ∀ g' : GH, Mv [k, ce] g g' → MakC g' c k pm real seed (takeT24 real A x xs).2.1 → EnvC g' ce p pm (takeT24 real A x xs).2.2 → R (.int .i64 (takeT24 real A x xs).1) g'.h) :
    HC Try.prog F.seal_Envelope_Take #[.pointer (some ⟨p, 0, none⟩), .slice s.a s.n s.c] R g.h := by
  refine seal_Envelope_Take.calls (l1 := s) ?_
  unfold seal_Envelope_Take.body
  obtain ⟨y, hy, hyn⟩ := fresh_exists g [c, k, ce, d]
  simp only [List.mem_cons, List.mem_nil_iff, or_false, not_or] at hyn
  have hre : ∀ j ∈ [k, ce, y], j ∈ [k, ce] ∨ Fresh g j := by
    intro j hj
    simp only [List.mem_cons, List.mem_nil_iff, or_false] at hj
    rcases hj with rfl | rfl | rfl
    · exact .inl (by simp)
    · exact .inl (by simp)
    · exact .inr hy
  refine envMade_spec v ⟨_, rfl, ?_⟩
  try dsimp only
  rw [if_neg (by simp)]
  have hn : s.n = xs.length := hr.len
  have hsm := hr.small
  refine loopW_rule (fun st h' => ∃ (i : Nat) (q : GH) (B : List ShThing.T) (z : EnvT), i ≤ xs.length ∧ st = (i : Int) ∧ h' = q.h ∧ Mv [k, ce, y] g q ∧ EnvC q ce p pm z ∧ MakC q c k pm real seed B ∧ takeT24 real A x xs = takeT24 real B z (xs.drop i)) (fun st => xs.length - st.toNat)
    ⟨0, g, A, x, by omega, rfl, rfl, Mv.refl _ _, v, xm, rfl⟩ ?_
  rintro X _ _ ⟨i, q, B, z, hi, rfl, rfl, m, v, xm, ht⟩ hX
  try dsimp only
  by_cases hlt : i < xs.length
  · rw [if_pos (by simp; omega)]
    have hdrop : xs.drop i = xs[i] :: xs.drop (i + 1) := List.drop_eq_getElem_cons hlt
    rw [hdrop] at ht
    refine (hr.mv m (by simp [hdk, hdc, Ne.symm hyn.2.2.2])).idxF rfl szF_Entry (by decide) hlt fun b o hcs ok hel => ?_
    refine loadEntryAt hcs ok ?_
    refine newStore_C q y (by rw [szEntry]; simpa using lenEntry ok) (by rw [szEntry, zEntry]; simpa using lenEntry okEntry0) (fun v hv => Sh.enc_one (s := ShEntry) rfl v hv) fun pe q1 m1 be => ?_
    replace m := m.step m1 (by simp)
    replace v := v.mv m1 (by simp)
    replace xm := xm.mv m1 (by simp) (by simp)
    generalize xs[i] = e at ht ok be
    refine loadAgg_whole be (by rw [szEntry]; simpa using (lenEntry ok).symm) ?_
    refine envWhy_spec hck hce v xm e ok fun q2 m2 xm2 => ⟨_, rfl, ?_⟩
    replace m := m.step m2 (by simp)
    replace v := v.mv m2 (by simp [hce])
    replace be := be.mv m2 (by simp [hyn.2.1])
    try dsimp only
    rw [takeT24_cons] at ht
    by_cases h0 : (whyT24 real B z e).1 = 0
    · rw [if_neg (by simpa using h0)]
      rw [if_pos h0] at ht
      have E := entryAt ok (blkCells be)
      have Bo := bodyAt ok.2.2.2.1 E.what
      simp only [fldK_some]
      refine loadK_cells Bo.say e.what.say (j := 0) (k := .int .i64) (by omega) rfl ?_
      refine loadAgg_whole be (by rw [szEntry]; simpa using (lenEntry ok).symm) ?_
      refine deeds_spec q2 y fun r q3 m3 xr => ⟨some r, rfl, ?_⟩
      replace m := m.step m3 (by simp)
      replace v := v.mv m3 (by simp)
      replace xm2 := xm2.mv m3 (by simp) (by simp)
      have be3 := be.mv m3 (by simp)
      have E3 := entryAt ok (blkCells be3)
      have st : stillAggK (sizeOfT Try.prog T.api_Entry) q3.h (some ⟨pe, 0, none⟩) ⟨ShEntry.enc e⟩ := loadEntryAt E3.whole ok rfl
      refine ⟨st, stillK_cells (bodyAt ok.2.2.2.1 E3.what).say (j := 0) (by omega) rfl, ?_⟩
      refine deedLook xr _ ?_
      refine ⟨st, ?_⟩
      refine ⟨deedF e.what.say, rfl, ?_⟩
      refine deedF_good (sayGood (whyGood h0)) v e ok rfl fun q4 m4 v4 => ?_
      replace m := m.step m4 (by simp)
      rw [wrapSucc (by omega)]
      exact hX _ _ ⟨i + 1, q4, _, _, by omega, rfl, rfl, m, v4, xm2.mv m4 (by simp [Ne.symm hcc]) (by simp [Ne.symm hce]), ht⟩ (by simp; omega)
    · rw [if_pos (by simpa using h0)]
      rw [if_neg h0] at ht
      have := H (g.via q2 id) (m.re id hre) (by rw [ht]; exact xm2.re (φ := id) m (.inl rfl) (.inl rfl)) (by rw [ht]; exact v.re (φ := id) m (.inl rfl))
      rw [ht] at this
      exact this
  · rw [if_neg (by simp; omega)]
    rw [List.drop_eq_nil_of_le (by omega), takeT24_nil] at ht
    have := H (g.via q id) (m.re id hre) (by rw [ht]; exact xm.re (φ := id) m (.inl rfl) (.inl rfl)) (by rw [ht]; exact v.re (φ := id) m (.inl rfl))
    rw [ht] at this
    exact this

/-! ### Make -/
def sealB24 (t : List Int) : BodyT := (5, move0, false, 0, t, zero32, ())
def openB24 (x : MoveT) (nonce : List Int) : BodyT := (7, x, false, 0, zero32, nonce, ())
def makeT24 (real : Bool) (A : List ShThing.T) (game : List Int) (number : Int) (x : MoveT) (nonce : List Int) : BodyT × BodyT × Int × List ShThing.T :=
  if (moveT22 real A game number x nonce).2.1 = 0 then (sealB24 (moveT22 real A game number x nonce).1, openB24 x nonce, 0, (moveT22 real A game number x nonce).2.2) else (body0, body0, (moveT22 real A game number x nonce).2.1, (moveT22 real A game number x nonce).2.2)
theorem bldSeal24 (t : List Int) (ht : ShTag.ok t) (w : World) : (Instr.build T.api_Body #[(0, .int .i64 5), (4, .agg (tagA t))]).run Try.prog w = .ok (.agg ⟨ShBody.enc (sealB24 t)⟩) w := by
  have te : tagA t = ⟨ShTag.enc t⟩ := by rw [encTag]
  rw [te]
  have h := build_segs (P := Try.prog) (t := T.api_Body) (fs := structFs Try.prog T.api_Body) (parts := #[(0, .int .i64 5), (4, .agg ⟨ShTag.enc t⟩)]) [[.int .i64 0], ShMove.enc move0, [.bool false], [.int .i64 0], ShTag.enc zero32, ShTag.enc zero32] (by kernel_rfl) (fun w => by kernel_rfl) (fun w => by kernel_rfl) (fun p hp => by
    simp only [List.mem_cons, List.mem_nil_iff, or_false] at hp
    rcases hp with rfl | rfl
    · exact ⟨_, rfl, rfl⟩
    · exact ⟨_, rfl, by show (ShTag.enc t).length = _; rw [lenTag ht, lenTag ok0]⟩) w
  rw [h]
  simp [Value.cells, Sh.enc, sealB24]
theorem bldOpen24 (x : MoveT) (t : List Int) (ht : ShTag.ok t) (w : World) : (Instr.build T.api_Body #[(0, .int .i64 7), (1, .agg ⟨ShMove.enc x⟩), (5, .agg (tagA t))]).run Try.prog w = .ok (.agg ⟨ShBody.enc (openB24 x t)⟩) w := by
  have te : tagA t = ⟨ShTag.enc t⟩ := by rw [encTag]
  rw [te]
  have h := build_segs (P := Try.prog) (t := T.api_Body) (fs := structFs Try.prog T.api_Body) (parts := #[(0, .int .i64 7), (1, .agg ⟨ShMove.enc x⟩), (5, .agg ⟨ShTag.enc t⟩)]) [[.int .i64 0], ShMove.enc move0, [.bool false], [.int .i64 0], ShTag.enc zero32, ShTag.enc zero32] (by kernel_rfl) (fun w => by kernel_rfl) (fun w => by kernel_rfl) (fun p hp => by
    simp only [List.mem_cons, List.mem_nil_iff, or_false] at hp
    rcases hp with rfl | rfl | rfl
    · exact ⟨_, rfl, rfl⟩
    · exact ⟨_, rfl, rfl⟩
    · exact ⟨_, rfl, by show (ShTag.enc t).length = _; rw [lenTag ht, lenTag ok0]⟩) w
  rw [h]
  simp [Value.cells, Sh.enc, openB24]
theorem oneBody {x : BodyT} : ∀ v ∈ (⟨ShBody.enc x⟩ : Array Value).toList, v.oneCell' = true := fun v hv => Sh.enc_one (s := ShBody) rfl v hv
theorem okSealB {t : List Int} (ht : ShTag.ok t) : ShBody.ok (sealB24 t) := ⟨okI (show -9223372036854775808 ≤ (5 : Int) ∧ (5 : Int) ≤ 9223372036854775807 by decide), okMove0, trivial, okI0, ht, ok0, trivial⟩
theorem okOpenB {x : MoveT} {t : List Int} (hx : ShMove.ok x) (ht : ShTag.ok t) : ShBody.ok (openB24 x t) := ⟨okI (show -9223372036854775808 ≤ (7 : Int) ∧ (7 : Int) ≤ 9223372036854775807 by decide), hx, trivial, okI0, ok0, ht, trivial⟩
theorem moveT22_tag (real : Bool) (A : List ShThing.T) (game : List Int) (number : Int) (x : MoveT) (nonce : List Int) : ShTag.ok (moveT22 real A game number x nonce).1 := by
  have := someT_tag real A (moveIs number x) nonce (moveRows game number x)
  exact okTag this.1 this.2
theorem makeT24_ok {real : Bool} {A : List ShThing.T} {game : List Int} {number : Int} {x : MoveT} {nonce : List Int} (hx : ShMove.ok x) (hn : ShTag.ok nonce) : ShBody.ok (makeT24 real A game number x nonce).1 ∧ ShBody.ok (makeT24 real A game number x nonce).2.1 := by
  unfold makeT24
  split
  · exact ⟨okSealB (moveT22_tag _ _ _ _ _ _), okOpenB hx hn⟩
  · exact ⟨okBody0, okBody0⟩

set_option maxHeartbeats 1000000 in
theorem sealMake_spec {g : GH} {c k pm : Nat} (hck : ¬ c = k) {real : Bool} {seed : List Int} {A : List ShThing.T} (xm : MakC g c k pm real seed A) (game : List Int) (okg : ShTag.ok game) (number : Int) (x : MoveT) (okx : ShMove.ok x) (nonce : List Int) (okn : ShTag.ok nonce) {R : Value → Heap → Prop}
    (H : ∀ g' : GH, Mv [k] g g' → MakC g' c k pm real seed (makeT24 real A game number x nonce).2.2.2 → R (.tuple #[.agg ⟨ShBody.enc (makeT24 real A game number x nonce).1⟩, .agg ⟨ShBody.enc (makeT24 real A game number x nonce).2.1⟩, .int .i64 (makeT24 real A game number x nonce).2.2.1]) g'.h) :
    HC Try.prog F.seal_Make #[.pointer (some ⟨pm, 0, none⟩), .agg (tagA game), .int .i64 number, .agg ⟨ShMove.enc x⟩, .agg (tagA nonce)] R g.h := by
  refine seal_Make.calls ?_
  unfold seal_Make.body
  have hgb := okTagB okg
  have hnb := okTagB okn
  obtain ⟨y, hy, hyn⟩ := fresh_exists g [c, k]
  obtain ⟨y2, hy2, hyn2⟩ := fresh_exists g [c, k, y]
  obtain ⟨y3, hy3, hyn3⟩ := fresh_exists g [c, k, y, y2]
  simp only [List.mem_cons, List.mem_nil_iff, or_false, not_or] at hyn hyn2 hyn3
  have m := Mv.refl [k, y, y2, y3] g
  have hre : ∀ j ∈ [k, y, y2, y3], j ∈ [k] ∨ Fresh g j := by
    intro j hj
    simp only [List.mem_cons, List.mem_nil_iff, or_false] at hj
    rcases hj with rfl | rfl | rfl | rfl
    · exact .inl (by simp)
    · exact .inr hy
    · exact .inr hy2
    · exact .inr hy3
  refine new_C g y fun pg q1 m1 bg => ?_
  refine new_C q1 y fun px q2 m2 bx => ?_
  refine new_C q2 y fun pn q3 m3 bn => ?_
  rw [zBody]
  refine new_C q3 y2 fun ps q4 m4 bs => ?_
  refine new_C q4 y3 fun po q5 m5 bo => ?_
  have e15 := (((m1.step m2 (L := []) (by simp)).step m3 (by simp)).step m4 (by simp)).step m5 (by simp)
  replace m := m.step e15 (by simp)
  replace xm := xm.mv e15 (by simp) (by simp)
  replace bg := (((bg.mv m2 (by simp)).mv m3 (by simp)).mv m4 (by simp)).mv m5 (by simp)
  replace bx := ((bx.mv m3 (by simp)).mv m4 (by simp)).mv m5 (by simp)
  replace bn := (bn.mv m4 (by simp)).mv m5 (by simp)
  replace bs := bs.mv m5 (by simp)
  refine loadAgg_whole bg (tagA_size hgb.1) ?_
  refine loadMoveAt (blkCells bx) ?_
  refine loadAgg_whole bn (tagA_size hnb.1) ?_
  refine move22_spec hck xm game okg number x okx nonce okn fun q6 m6 xm => ⟨(_, _), rfl, ?_⟩
  replace m := m.step m6 (by simp)
  replace bx := bx.mv m6 (by simp [hyn.2])
  replace bn := bn.mv m6 (by simp [hyn.2])
  replace bs := bs.mv m6 (by simp [hyn2.2.1])
  replace bo := bo.mv m6 (by simp [hyn3.2.1])
  try dsimp only
  have okt := moveT22_tag real A game number x nonce
  unfold makeT24 at H
  generalize moveT22 real A game number x nonce = mt at xm okt H
  have htb := okTagB okt
  rw [zTag]
  refine newStore_C q6 y (by rw [szTag]; simp [htb.1]) (by rw [szTag]; simp) (fun v hv => oneBy _ v hv) fun pt q7 m7 bt => ?_
  replace m := m.step m7 (by simp)
  replace xm := xm.mv m7 (by simp) (by simp)
  replace bx := bx.mv m7 (by simp)
  replace bn := bn.mv m7 (by simp)
  replace bs := bs.mv m7 (by simp)
  replace bo := bo.mv m7 (by simp)
  have lb0 : (⟨ShBody.enc body0⟩ : Array Value).size = 70 := by simpa using lenBody okBody0
  by_cases h0 : mt.2.1 = 0
  · rw [if_neg (by simpa using h0)]
    rw [if_pos h0] at H
    refine loadAgg_whole bt (tagA_size htb.1) ?_
    refine ⟨_, bldSeal24 _ okt, ?_⟩
    refine loadMoveAt (blkCells bx) ?_
    refine loadAgg_whole bn (tagA_size hnb.1) ?_
    refine ⟨_, bldOpen24 x nonce okn, ?_⟩
    have l1 : (⟨ShBody.enc (sealB24 mt.1)⟩ : Array Value).size = 70 := by simpa using lenBody (okSealB okt)
    have l2 : (⟨ShBody.enc (openB24 x nonce)⟩ : Array Value).size = 70 := by simpa using lenBody (okOpenB okx okn)
    refine storeAgg_C bs (by rw [szBody]; exact l1) (by rw [szBody, lb0]; decide) oneBody fun q8 m8 b8 => ?_
    rw [overA_all (by rw [lb0]; simpa using l1)] at b8
    replace m := m.step m8 (by simp)
    refine ⟨stillAgg_whole (bn.mv m8 (by simp [Ne.symm hyn2.2.2])) (tagA_size hnb.1), loadMoveAt (blkCells (bx.mv m8 (by simp [Ne.symm hyn2.2.2]))) rfl, ?_⟩
    refine storeAgg_C (bo.mv m8 (by simp [hyn3.2.2.2])) (by rw [szBody]; exact l2) (by rw [szBody, lb0]; decide) oneBody fun q9 m9 b9 => ?_
    rw [overA_all (by rw [lb0]; simpa using l2)] at b9
    replace m := m.step m9 (by simp)
    refine loadAt_agg (dBody _) ?_
    refine loadBodyAt (blkCells (b8.mv m9 (by simp [Ne.symm hyn3.2.2.2]))) (okSealB okt) ?_
    refine loadAt_agg (dBody _) ?_
    refine loadBodyAt (blkCells b9) (okOpenB okx okn) ?_
    exact H (g.via q9 id) (m.re id hre) (((xm.mv m8 (by simp [Ne.symm hyn2.1]) (by simp [Ne.symm hyn2.2.1])).mv m9 (by simp [Ne.symm hyn3.1]) (by simp [Ne.symm hyn3.2.1])).re (φ := id) m (.inl rfl) (.inl rfl))
  · rw [if_pos (by simpa using h0)]
    rw [if_neg h0] at H
    refine loadBodyAt (blkCells bs) okBody0 ?_
    refine loadBodyAt (blkCells bo) okBody0 ?_
    refine storeAgg_C bs (by rw [szBody]; exact lb0) (by rw [szBody, lb0]; decide) oneBody fun q8 m8 b8 => ?_
    rw [overA_all (by simp)] at b8
    replace m := m.step m8 (by simp)
    have bo8 := bo.mv m8 (by simp [hyn3.2.2.2])
    refine ⟨loadBodyAt (blkCells bo8) okBody0 rfl, ?_⟩
    refine storeAgg_C bo8 (by rw [szBody]; exact lb0) (by rw [szBody, lb0]; decide) oneBody fun q9 m9 b9 => ?_
    rw [overA_all (by simp)] at b9
    replace m := m.step m9 (by simp)
    refine loadAt_agg (dBody _) ?_
    refine loadBodyAt (blkCells (b8.mv m9 (by simp [Ne.symm hyn3.2.2.2]))) okBody0 ?_
    refine loadAt_agg (dBody _) ?_
    refine loadBodyAt (blkCells b9) okBody0 ?_
    exact H (g.via q9 id) (m.re id hre) (((xm.mv m8 (by simp [Ne.symm hyn2.1]) (by simp [Ne.symm hyn2.2.1])).mv m9 (by simp [Ne.symm hyn3.1]) (by simp [Ne.symm hyn3.2.1])).re (φ := id) m (.inl rfl) (.inl rfl))

end Go.Proofs.Ytejjeggaofpbiaa
