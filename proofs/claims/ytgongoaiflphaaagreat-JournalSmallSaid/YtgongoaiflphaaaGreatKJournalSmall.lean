/-
  The statement JournalSmall.
-/
import Derived.Test.YtgongoaiflphaaaGreatKJournalDoes
set_option linter.unusedSimpArgs false
set_option linter.unusedVariables false
namespace Go.Proofs.YtgongoaiflphaaaGreat
open Go Go.Ev

/-! ### Frames, deeds -/
theorem frames26_spec {g : GH} {cm pm d : Nat} (x : Mk26 g cm pm) (s : Sl) (rows : List (List Int)) (hr : RowsC g d s rows) (hl : rows.length ≤ 1000) (hx : ∀ r ∈ rows, r.length ≤ 1000) (hby : ∀ r ∈ rows, ∀ z ∈ r, isByte z) (c : Nat) {R : Value → Heap → Prop}
    (H : ∀ (s' : Sl) (g' : GH), Mv [] g g' → OwnC T.uint8 1 g' c s' ((framesT true [] 0 rows).1.flatten.map byV) → R (.slice s'.a s'.n s'.c) g'.h) : HC Tryz.prog F.law26_frames #[ptrV pm, .slice s.a s.n s.c] R g.h := by
  refine law26_frames.calls (l1 := s) ?_
  unfold law26_frames.body
  have hn := hr.len
  refine loopW_rule (fun st h' => ∃ (i : Nat) (so : Sl) (q : GH), i ≤ rows.length ∧ st = (so, (i : Int)) ∧ h' = q.h ∧ Mv [1] g.base q ∧ OwnC T.uint8 1 q 1 so ((framesT true [] 0 (rows.take i)).1.flatten.map byV)) (fun st => rows.length - st.2.toNat)
    ⟨0, ⟨none, 0, 0⟩, g.base, by omega, rfl, rfl, Mv.refl _ _, OwnC.nil _ _ _ _⟩ ?_
  rintro X _ _ ⟨i, so, q, hi, rfl, rfl, m, o⟩ hX
  try dsimp only
  by_cases hlt : i < rows.length
  · rw [if_pos (by simp; omega)]
    refine (hr.arg m (by simp)).idx (by kernel_rfl) hlt fun sl rsl hsl => ?_
    have h1 := hx _ (List.getElem_mem hlt)
    refine refFrame_spec (x.base.mv m (by simp)) i sl rows[i] rsl hsl (by omega) (hby _ (List.getElem_mem hlt)) 2 fun sf q3 m3 of => ⟨_, rfl, ?_⟩
    have hft := framesT_total true (rows.take i) [] 0
    have htb := total_bound (rows.take i) 1000 fun r h => hx r (List.mem_of_mem_take h)
    rw [List.length_take, Nat.min_eq_left hi] at hft htb
    have fl := frameT_len true [] i rows[i]
    refine appB (o.mv m3 (by simp)) of.rd (by unfold total at hft htb; omega) fun s4 q4 m4 o4 => ?_
    rw [wrapSucc (by omega)]
    refine hX _ _ ⟨i + 1, s4, q4, by omega, rfl, rfl, (m.step m3 (by simp)).step m4 (by simp), ?_⟩ (by simp; omega)
    have hs := framesT_snoc true rows[i] (rows.take i) [] 0
    rw [List.length_take, Nat.min_eq_left hi, ← List.take_succ_eq_append_getElem hlt, framesR, Nat.zero_add] at hs
    rw [hs]
    simpa using o4
  · rw [if_neg (by simp; omega)]
    rw [List.take_of_length_le (by omega)] at o
    exact H so (g.via q fun _ => c) (m.via (by simp) _) (o.via m (by simp) _)
abbrev Dd (a b : Int) (v : Sl) : Array Value := #[.int .i64 a, .int .i64 b, slV v]
theorem bldDd0 (w : World) : (Instr.build T.zugzwanglaw26_Deed #[(0, .int .i64 3)]).run Tryz.prog w = .ok (.agg (Dd 3 0 ⟨none, 0, 0⟩)) w := by kernel_rfl
theorem bldDd1 (w : World) : (Instr.build T.zugzwanglaw26_Deed #[(0, .int .i64 1)]).run Tryz.prog w = .ok (.agg (Dd 1 0 ⟨none, 0, 0⟩)) w := by kernel_rfl
theorem bldDd2 (b : Int) (w : World) : (Instr.build T.zugzwanglaw26_Deed #[(0, .int .i64 2), (1, .int .i64 b)]).run Tryz.prog w = .ok (.agg (Dd 2 b ⟨none, 0, 0⟩)) w := by kernel_rfl
theorem bldDd3 (b : Int) (w : World) : (Instr.build T.zugzwanglaw26_Deed #[(0, .int .i64 3), (1, .int .i64 b)]).run Tryz.prog w = .ok (.agg (Dd 3 b ⟨none, 0, 0⟩)) w := by kernel_rfl
structure DdOk (q : GH) (c : Nat) (x : Int × Int × Sl × List (List Int)) : Prop where
  a : -9223372036854775808 ≤ x.1 ∧ x.1 ≤ 9223372036854775807
  b : -9223372036854775808 ≤ x.2.1 ∧ x.2.1 ≤ 9223372036854775807
  v : SlC q c (.sl (.int .u8)) x.2.2.1 x.2.2.2
theorem DdOk.none (q : GH) (c : Nat) {a b : Int} (ha : -9223372036854775808 ≤ a ∧ a ≤ 9223372036854775807) (hb : -9223372036854775808 ≤ b ∧ b ≤ 9223372036854775807) : DdOk q c (a, b, ⟨Option.none, 0, 0⟩, []) := ⟨ha, hb, SlC.nil _ _ _⟩
theorem DdOk.mv {K : List Nat} {q q' : GH} {c : Nat} {x : Int × Int × Sl × List (List Int)} (d : DdOk q c x) (m : Mv K q q') (h : c ∉ K) : DdOk q' c x := ⟨d.a, d.b, d.v.mv m h⟩
abbrev ddT (x : Int × Int × Sl × List (List Int)) : Deed := (x.1, x.2.1, x.2.2.2, ())
theorem mkDds_C (q : GH) (c : Nat) (ds : List (Int × Int × Sl × List (List Int))) {n : Nat} (hn : ds.length = n) (h0 : 0 < n) (hle : n ≤ 100) (ok : ∀ x ∈ ds, DdOk q c x) {parts : Array (Nat × Value)} (hp : parts.toList = ((ds.map fun x => Value.agg (Dd x.1 x.2.1 x.2.2.1)).zipIdx).map fun x => (x.2, x.1)) {K : Sl → Heap → Prop}
    (H : ∀ (s : Sl) (q' : GH), Mv [] q q' → SlC q' c ShDeed s (ds.map ddT) → K s q'.h) : opK Tryz.prog .slice (Instr.buildSlice T.sl_zugzwanglaw26_Deed n parts) K q.h := by
  refine buildRows_C (e := T.zugzwanglaw26_Deed) (sz := 3) (z := .agg (zerosOf Tryz.prog T.zugzwanglaw26_Deed)) (by kernel_rfl) (by kernel_rfl) (by decide) (ds.map fun x => Value.agg (Dd x.1 x.2.1 x.2.2.1)) hp (fun v hv => ?_) (by simpa using hn) h0 (by omega) q c fun s q' m o hn1 hc1 => ?_
  · obtain ⟨x, _, rfl⟩ := List.mem_map.1 hv; rfl
  · rw [List.flatMap_map] at o
    refine H s q' m (.of (ds.map fun x => [.int .i64 x.1, .int .i64 x.2.1, slV x.2.2.1]) (by omega) (by simp; omega) (by simp; omega) (by omega) ?_ fun i x k h1 h2 => ?_)
    · have e : (ds.map fun x => [Value.int .i64 x.1, .int .i64 x.2.1, slV x.2.2.1]).flatten = ds.flatMap fun x => (Value.agg (Dd x.1 x.2.1 x.2.2.1)).cells.toList := by
        rw [List.flatMap_def]; rfl
      rw [e]
      exact o.rd
    · rw [List.getElem?_map] at h1 h2
      cases hx : ds[i]? with
      | none => rw [hx] at h1; cases h1
      | some d =>
        rw [hx] at h1 h2
        simp only [Option.map_some, Option.some.injEq] at h1 h2
        subst h1 h2
        have dk := (ok d (List.mem_of_getElem? hx)).mv m (by simp)
        exact LayC.mkDeed dk.v _ _ dk.a dk.b
theorem bytesSl {g : GH} {c : Nat} {s : Sl} {xs : List Int} (r : RdC 1 g c s (xs.map byV)) (hc : s.n ≤ s.c) (hl : xs.length ≤ 1000000000) (hby : ∀ z ∈ xs, isByte z) : SlC g c (.int .u8) s xs := SlC.ofInts r hc (by omega) hby

theorem idxAt26 {sz : Nat} {g : GH} {c : Nat} {s : Sl} {vs : List Value} {i : Int} {K : Addr → Prop} (r : RdC 1 g c s vs) (hsz : sz = 1) (h0 : 0 ≤ i) (hi : i.toNat < vs.length)
    (hK : ∀ a : Addr, (∀ (q : GH) (k : Kd) (x : k.T) (L : k.T → Prop), RdC 1 q c s vs → vs[i.toNat]? = some (k.inj x) → L x → loadK k q.h (some a) L) → K a) : idxK s i sz K := by
  subst hsz
  rcases r.rd.2 with hn | ⟨b, o, cs, e, fz, ha, hb, hc⟩
  · subst hn; simp at hi
  · refine ⟨_, ha, ⟨h0, by rw [r.rd.len]; omega⟩, ?_⟩
    rw [Nat.mul_one, addr_add]
    refine hK _ ?_
    intro q k x L r' hx hL
    rcases r'.rd.2 with hn | ⟨b', o', c', e', fz', ha', hb', hc'⟩
    · subst hn; simp at hi
    · rw [ha] at ha'
      cases ha'
      exact ⟨b, o + i.toNat, c', e', fz', x, rfl, hb', by rw [hc' _ hi]; exact hx, hL⟩

/-! ### No journal -/
def NoJ (g : GH) (c : Nat) (v : Option Addr) : Prop := v = none ∨ ∃ (p : Nat) (cells : Array Value) (e : TypeId), v = some ⟨p, 0, none⟩ ∧ BlkC g c p cells e ∧ cells[1]? = some (.pointer none)
theorem NoJ.mv {K : List Nat} {g g' : GH} {c : Nat} {v : Option Addr} (x : NoJ g c v) (m : Mv K g g') (h : c ∉ K) : NoJ g' c v := by
  rcases x with h0 | ⟨p, cells, e, rfl, b, hc⟩
  · exact .inl h0
  · exact .inr ⟨p, cells, e, rfl, b.mv m h, hc⟩
section
variable {g : GH} {c : Nat} {v : Option Addr}
theorem noMade_spec (x : NoJ g c v) {R : Value → Heap → Prop} (H : R (.bool false) g.h) : HC Tryz.prog F.journal_Journal_made #[.pointer v] R g.h := by
  refine journal_Journal_made.calls ?_
  unfold journal_Journal_made.body
  rcases x with rfl | ⟨p, cells, e, rfl, b, hc⟩
  · rw [if_neg (by simp)]; exact H
  · rw [if_pos (by rfl), derefK_some, fldK_some, loadK_C b]
    exact ⟨none, hc, H⟩
theorem noLen26_spec (x : NoJ g c v) {R : Value → Heap → Prop} (H : R (.int .i64 0) g.h) : HC Tryz.prog F.journal_Journal_Len #[.pointer v] R g.h := by
  refine journal_Journal_Len.calls ?_
  unfold journal_Journal_Len.body
  refine noMade_spec x ⟨_, rfl, ?_⟩
  try dsimp only
  rw [if_pos (by rfl)]
  exact H
theorem noPut26_spec (x : NoJ g c v) (s : Sl) {R : Value → Heap → Prop} (H : R (.int .i64 1) g.h) : HC Tryz.prog F.journal_Journal_Put #[.pointer v, .slice s.a s.n s.c] R g.h := by
  refine journal_Journal_Put.calls (l1 := s) ?_
  unfold journal_Journal_Put.body
  refine noMade_spec x ⟨_, rfl, ?_⟩
  try dsimp only
  rw [if_pos (by rfl)]
  exact H
theorem noSync26_spec (x : NoJ g c v) {R : Value → Heap → Prop} (H : R (.int .i64 1) g.h) : HC Tryz.prog F.journal_Journal_Sync #[.pointer v] R g.h := by
  refine journal_Journal_Sync.calls ?_
  unfold journal_Journal_Sync.body
  refine noMade_spec x ⟨_, rfl, ?_⟩
  try dsimp only
  rw [if_pos (by rfl)]
  exact H
theorem noRecords_spec (x : NoJ g c v) {R : Value → Heap → Prop} (H : R (.slice none 0 0) g.h) : HC Tryz.prog F.journal_Journal_Records #[.pointer v] R g.h := by
  refine journal_Journal_Records.calls ?_
  unfold journal_Journal_Records.body
  refine noLen26_spec x ⟨_, rfl, ?_⟩
  try dsimp only
  refine loopW_rule (fun st h' => st = (⟨none, 0, 0⟩, (0 : Int)) ∧ h' = g.h) (fun _ => 0) ⟨rfl, rfl⟩ ?_
  rintro X _ _ ⟨rfl, rfl⟩ _
  rw [if_neg (by simp)]
  exact H
theorem noAt_spec (x : NoJ g c v) {R : Value → Heap → Prop} (H : R (.tuple #[slV ⟨none, 0, 0⟩, .bool false]) g.h) : HC Tryz.prog F.journal_Journal_At #[.pointer v, .int .i64 0] R g.h := by
  refine journal_Journal_At.calls ?_
  unfold journal_Journal_At.body
  rw [if_neg (by simp)]
  refine noLen26_spec x ⟨_, rfl, ?_⟩
  try dsimp only
  rw [if_pos (by simp)]
  exact H
end
theorem noDiskThere {g : GH} {v : Option Addr} (x : v = none ∨ ∃ (c p : Nat) (cells : Array Value) (e : TypeId), v = some ⟨p, 0, none⟩ ∧ BlkC g c p cells e ∧ cells[2]? = some (.bool false)) (s : Sl) {R : Value → Heap → Prop} (H : R (.int .i64 1) g.h) : HC Tryz.prog F.disk_Disk_Write #[.pointer v, .slice s.a s.n s.c] R g.h := by
  refine disk_Disk_Write.calls (rows1 := s) ?_
  unfold disk_Disk_Write.body
  have th : HC Tryz.prog F.disk_Disk_there #[.pointer v] (fun v h => v = .bool false ∧ h = g.h) g.h := by
    refine disk_Disk_there.calls ?_
    unfold disk_Disk_there.body
    rcases x with rfl | ⟨c, p, cells, e, rfl, b, hc⟩
    · rw [if_neg (by simp)]; exact ⟨rfl, rfl⟩
    · rw [if_pos (by rfl), derefK_some, fldK_some, loadK_C b]
      exact ⟨false, hc, rfl, rfl⟩
  refine th.mono ?_
  rintro _ _ ⟨rfl, rfl⟩
  refine ⟨_, rfl, ?_⟩
  try dsimp only
  rw [if_pos (by rfl)]
  exact H
theorem noOpenD {g : GH} {pm : Nat} {v : Option Addr} {real : Bool} {seed : List Int} {A : List ShThing.T} (x : MakC g 1 2 pm real seed A) (hv : ∀ q : GH, Mv [] g q → v = none ∨ ∃ (c p : Nat) (cells : Array Value) (e : TypeId), v = some ⟨p, 0, none⟩ ∧ BlkC q c p cells e ∧ cells[2]? = some (.bool false)) {R : Value → Heap → Prop} (H : ∀ g' : GH, Mv [] g g' → R (.tuple #[.pointer none, .int .i64 1]) g'.h) :
    HC Tryz.prog F.journal_Open #[ptrV pm, .pointer v] R g.h := by
  refine journal_Open.calls ?_
  unfold journal_Open.body
  refine makCopy_spec x 100 101 fun p' q1 m1 _ => ⟨_, rfl, ?_⟩
  try dsimp only
  rw [if_neg (by simp)]
  refine noDiskThere (hv q1 m1) ⟨none, 0, 0⟩ ⟨_, rfl, ?_⟩
  try dsimp only
  rw [if_pos (by simp)]
  exact H q1 m1
theorem noOpenM {g : GH} {d : Option Addr} {R : Value → Heap → Prop} (H : R (.tuple #[.pointer none, .int .i64 1]) g.h) : HC Tryz.prog F.journal_Open #[.pointer none, .pointer d] R g.h := by
  refine journal_Open.calls ?_
  unfold journal_Open.body
  have cp : HC Tryz.prog F.tags_Maker_Copy #[.pointer none] (fun v h => v = .pointer none ∧ h = g.h) g.h := by
    refine tags_Maker_Copy.calls ?_
    unfold tags_Maker_Copy.body
    have th : HC Tryz.prog F.tags_Maker_there #[.pointer none] (fun v h => v = .bool false ∧ h = g.h) g.h := by
      refine tags_Maker_there.calls ?_
      unfold tags_Maker_there.body
      rw [if_neg (by simp)]; exact ⟨rfl, rfl⟩
    refine th.mono ?_
    rintro _ _ ⟨rfl, rfl⟩
    refine ⟨_, rfl, ?_⟩
    try dsimp only
    rw [if_pos (by rfl)]
    exact ⟨rfl, rfl⟩
  refine cp.mono ?_
  rintro _ _ ⟨rfl, rfl⟩
  refine ⟨none, rfl, ?_⟩
  try dsimp only
  rw [if_pos (by rfl)]
  exact H
theorem bldDisk0' (w : World) : (Instr.build T.disk_Disk #[]).run Tryz.prog w = .ok (.agg #[.slice none 0 0, .int .i64 0, .bool false]) w := by kernel_rfl
theorem bldJrn0 (w : World) : (Instr.build T.journal_Journal #[]).run Tryz.prog w = .ok (.agg #[.pointer none, .pointer none, .slice none 0 0]) w := by kernel_rfl

set_option maxHeartbeats 2000000 in
theorem none26_spec (g : GH) {R : Value → Heap → Prop} (H : ∀ g' : GH, Mv [] g g' → R (.bool true) g'.h) : HC Tryz.prog F.law26_none #[] R g.h := by
  refine law26_none.calls ?_
  unfold law26_none.body
  have m := Mv.refl [1, 2, 3, 4, 8, 9] g.base
  refine newSl_C g.base 8 rfl fun s1 q1 m1 o1 hn1 hc1 => ?_
  refine newSl_C q1 8 rfl fun s2 q2 m2 o2 hn2 hc2 => ?_
  have r2 : RowsC q2 8 s2 [[1]] := RowsC.one o2.rd (o1.rd.mv m2 (by simp)) (by omega)
  replace m := (m.step m1 (by simp)).step m2 (by simp)
  refine NewDisk_spec q2 3 4 (by decide) s2 _ r2 (by decide) (by decide) (fun pd q3 _ m3 dk => ⟨(_, _), rfl, ?_⟩) (fun _ h => absurd (by decide) h)
  replace m := m.step m3 (by simp)
  try dsimp only
  refine noOpenM ⟨(_, _), rfl, ?_⟩
  refine makNew_spec q3 1 2 false ⟨none, 0, 0⟩ [] (RdC.nil _ _ 0 _ _) (by simp) (by simp) fun pm q4 m4 x => ⟨_, rfl, ?_⟩
  replace m := m.step m4 (by simp)
  replace dk := dk.mv m4 (by simp) (by simp)
  refine noOpenD x (fun q _ => .inl rfl) fun q5 m5 => ⟨(_, _), rfl, ?_⟩
  replace m := m.step m5 (by simp)
  replace dk := dk.mv m5 (by simp) (by simp)
  clear x
  refine makNew_spec q5 1 2 false ⟨none, 0, 0⟩ [] (RdC.nil _ _ 0 _ _) (by simp) (by simp) fun pm2 q6 m6 x => ⟨_, rfl, ?_⟩
  replace m := m.step m6 (by simp)
  replace dk := dk.mv m6 (by simp) (by simp)
  refine ⟨_, bldDisk0', ?_⟩
  refine new_C q6 9 fun pz q7 m7 bz => ?_
  replace m := m.step m7 (by simp)
  replace dk := dk.mv m7 (by simp) (by simp)
  refine noOpenD (x.mv m7 (by simp) (by simp)) (fun q e => .inr ⟨9, pz, _, _, rfl, bz.mv e (by simp), rfl⟩) fun q8 m8 => ⟨(_, _), rfl, ?_⟩
  replace m := m.step m8 (by simp)
  replace dk := dk.mv m8 (by simp) (by simp)
  clear x bz
  refine ⟨_, bldJrn0, ?_⟩
  refine new_C q8 9 fun pj q9 m9 bj => ?_
  replace m := m.step m9 (by simp)
  replace dk := dk.mv m9 (by simp) (by simp)
  refine newSl_C q9 9 rfl fun sj q10 m10 oj hnj _ => ?_
  replace m := m.step m10 (by simp)
  replace dk := dk.mv m10 (by simp) (by simp)
  replace bj := bj.mv m10 (by simp)
  have two : ∀ i < 2, ∃ v : Option Addr, NoJ q10 9 v ∧ ([.pointer none, .pointer (some ⟨pj, 0, none⟩)] : List Value)[((i : Nat) : Int).toNat]? = some (Kd.inj .ptr v) := by
    intro i hi
    rcases (show i = 0 ∨ i = 1 by omega) with rfl | rfl
    · exact ⟨none, .inl rfl, rfl⟩
    · exact ⟨some ⟨pj, 0, none⟩, .inr ⟨pj, _, _, rfl, bj, rfl⟩, rfl⟩
  try dsimp only
  refine loopW_rule (fun st h' => ∃ (i : Nat) (q : GH), i ≤ 2 ∧ st = (i : Int) ∧ h' = q.h ∧ Mv [] q10 q) (fun st => 2 - st.toNat) ⟨0, q10, by omega, rfl, rfl, Mv.refl _ _⟩ ?_
  rintro X _ _ ⟨i, q, hi, rfl, rfl, e⟩ hX
  try dsimp only
  have M := m.step e (by simp)
  by_cases hlt : i < 2
  · rw [if_pos (by simp; omega)]
    obtain ⟨v, hv, hx⟩ := two i hlt
    have hvq := hv.mv e (by simp)
    have oq := oj.rd.mv e (by simp)
    refine idxLoad_C oq (by kernel_rfl) (by omega) v hx ?_
    refine noAt_spec hvq ⟨(_, _), rfl, ?_⟩
    refine idxLoad_C oq (by kernel_rfl) (by omega) v hx ?_
    refine make_C (e := T.uint8) (by_ := 1) (z := .int .u8 0) (l := 8192) (k := 8192) (by kernel_rfl) (by kernel_rfl) rfl (by omega) q 8 (by omega) (by omega) fun s11 q11 m11 o11 hn11 hc11 _ => ?_
    refine newSl_C q11 8 rfl fun s12 q12 m12 o12 hn12 hc12 => ?_
    have e12 : Mv [] q q12 := m11.step m12 (by simp)
    have hv12 := hvq.mv e12 (by simp)
    have o12' := oq.mv e12 (by simp)
    refine noPut26_spec hv12 s12 ⟨_, rfl, ?_⟩
    try dsimp only
    rw [if_neg (by simp)]
    refine idxLoad_C o12' (by kernel_rfl) (by omega) v hx ?_
    refine noSync26_spec hv12 ⟨_, rfl, ?_⟩
    try dsimp only
    rw [if_neg (by simp), if_neg (by simp)]
    refine idxAt26 o12' (by kernel_rfl) (by omega) (by simp; omega) fun a1 l1 => ?_
    refine idxAt26 o12' (by kernel_rfl) (by omega) (by simp; omega) fun a2 l2 => ?_
    refine l1 q12 .ptr v _ o12' hx ?_
    refine l2 q12 .ptr v _ o12' hx ?_
    refine noLen26_spec hv12 ⟨_, rfl, ?_⟩
    refine ⟨l2 q12 .ptr v _ o12' hx rfl, ?_⟩
    refine noRecords_spec hv12 ⟨⟨none, 0, 0⟩, rfl, ?_⟩
    try dsimp only
    rw [if_neg (by decide), wrapSucc (by omega)]
    exact hX _ _ ⟨i + 1, q12, by omega, rfl, rfl, e.step e12 (by simp)⟩ (by simp; omega)
  · rw [if_neg (by simp; omega)]
    rw [if_pos (by rfl), if_pos (by rfl), if_pos (by rfl)]
    refine Len_spec (dk.mv e (by simp) (by simp)) ⟨_, rfl, ?_⟩
    exact H (g.via q fun _ => 0) (M.via (by simp) _)

/-! ### A disk that is full -/
theorem knownR : ∀ (l : List (List Int)) (i : Nat), KnownJ true [] i l
  | [], i => trivial
  | b :: l, i => ⟨rfl, knownR l (i + 1)⟩
theorem total_rep (n k : Nat) : total (List.replicate n (List.replicate k (0 : Int))) = n * k := by
  unfold total
  induction n with
  | zero => simp
  | succ n ih => rw [List.replicate_succ, List.flatten_cons, List.length_append, ih, List.length_replicate, Nat.succ_mul]; omega
theorem zerosMap (n : Nat) : List.replicate n (Value.int .u8 0) = (List.replicate n (0 : Int)).map byV := by rw [List.map_replicate]
theorem zerosByte (n : Nat) : ∀ z ∈ List.replicate n (0 : Int), isByte z := fun z hz => by rw [List.eq_of_mem_replicate hz]; simp [isByte]
theorem putR (rs rows : List (List Int)) : (framesT true [] 0 rs).1.flatten ++ (framesT true [] rs.length rows).1.flatten = (framesT true [] 0 (rs ++ rows)).1.flatten := by
  have := (put_plain (rows := rows) (knownR rs 0)).2
  rw [framesR] at this
  exact this.symm

set_option maxHeartbeats 2000000 in
set_option maxRecDepth 100000 in
theorem full26_spec (g : GH) {R : Value → Heap → Prop} (H : ∀ g' : GH, Mv [] g g' → R (.bool true) g'.h) : HC Tryz.prog F.law26_full #[] R g.h := by
  refine law26_full.calls ?_
  unfold law26_full.body
  have ok3 : okK [3, 4, 5, 6, 7] := by decide
  have m := Mv.refl (1 :: 2 :: 3 :: 4 :: 5 :: 6 :: 7 :: 8 :: SJ) g.base
  refine NewDisk_spec g.base 3 4 (by decide) ⟨none, 0, 0⟩ [] (RowsC.nil g.base 0 _ _) (by decide) (by decide) (fun pd q1 _ m1 dk => ⟨(_, _), rfl, ?_⟩) (fun _ h => absurd (by decide) h)
  replace m := m.step m1 (by simp)
  refine makNew_spec q1 1 2 true ⟨none, 0, 0⟩ [] (RdC.nil _ _ 0 _ _) (by simp) (by simp) fun pm q2 m2 x => ⟨_, rfl, ?_⟩
  replace m := m.step m2 (by simp)
  refine Reopen_spec (rs := []) (p := 0) ok3 x (dk.mv m2 (by simp) (by simp)) trivial (by simp) (by simp) fun pj q3 m3 x dk j => ⟨(_, _), rfl, ?_⟩
  rw [List.take_nil] at dk j
  replace m := m.step m3 (by simp)
  try dsimp only
  refine make_C (e := T.uint8) (by_ := 1) (z := .int .u8 0) (l := 4096) (k := 4096) (by kernel_rfl) (by kernel_rfl) rfl (by omega) q3 8 (by omega) (by omega) fun s4 q4 m4 o4 hn4 hc4 _ => ?_
  replace m := m.step m4 (by simp)
  rw [zerosMap] at o4
  have hz : ∀ (n : Nat), ∀ b ∈ List.replicate n (List.replicate 4096 (0 : Int)), b.length ≤ 4096 := fun n b hb => by rw [List.eq_of_mem_replicate hb, List.length_replicate]; exact Nat.le_refl _
  refine loopW_rule (fun st h' => ∃ (i : Nat) (q : GH) (safe : Nat), i ≤ 253 ∧ st = (i : Int) ∧ h' = q.h ∧ Mv (1 :: 2 :: 3 :: 4 :: 5 :: 6 :: 7 :: 8 :: SJ) g.base q ∧ RdC 1 q 8 s4 ((List.replicate 4096 (0 : Int)).map byV) ∧ MakC q 1 2 pm true [] [] ∧ DiskC q 3 4 pd safe (framesT true [] 0 (List.replicate i (List.replicate 4096 (0 : Int)))).1.flatten ∧ JrnC q 5 6 7 pj pm pd (List.replicate i (List.replicate 4096 (0 : Int)))) (fun st => 253 - st.toNat)
    ⟨0, q4, _, by omega, rfl, rfl, m, o4.rd, x.mv m4 (by simp) (by simp), dk.mv m4 (by simp) (by simp), j.mv m4 (by simp) (by simp) (by simp)⟩ ?_
  clear m o4 x dk j m1 m2 m3 m4
  rintro X _ _ ⟨i, q, safe, hi, rfl, rfl, m, o4, x, dk, j⟩ hX
  try dsimp only
  have hfl := framesT_flat true [] 0 (List.replicate i (List.replicate 4096 (0 : Int)))
  rw [total_rep, List.length_replicate] at hfl
  by_cases hlt : i < 253
  · rw [if_pos (by simp; omega)]
    refine newSl_C q 8 rfl fun s5 q5 m5 o5 hn5 hc5 => ?_
    have r5 : RowsC q5 8 s5 [List.replicate 4096 (0 : Int)] := RowsC.one o5.rd (o4.mv m5 (by simp)) (by omega)
    have ht1 : total [List.replicate 4096 (0 : Int)] = 4096 := by simp [total]
    refine jPut_spec ok3 (by decide) (x.mv m5 (by simp) (by simp)) (dk.mv m5 (by simp) (by simp)) (j.mv m5 (by simp) (by simp) (by simp)) s5 _ r5 (fun b hb => by
      simp only [List.mem_singleton] at hb; rw [hb]; exact zerosByte _) (by simp) (by simp; omega) (fun _ hfit q6 m6 x dk j => ⟨_, rfl, ?_⟩) (fun h => absurd (fun b hb => by simp only [List.mem_singleton] at hb; rw [hb, List.length_replicate]; exact Nat.le_refl _) h) (fun _ h => absurd (by rw [framesT_total, hfl, ht1, List.length_singleton]; omega) h)
    rw [framesR] at x
    rw [putR, ← List.replicate_succ'] at dk
    rw [← List.replicate_succ'] at j
    try dsimp only
    rw [if_neg (by simp), wrapSucc (by omega)]
    exact hX _ _ ⟨i + 1, q6, safe, by omega, rfl, rfl, (m.step m5 (by simp)).step m6 (by simp), (o4.mv m5 (by simp)).mv m6 (by simp), x, dk, j⟩ (by simp; omega)
  rw [if_neg (by simp; omega)]
  have hie : i = 253 := by omega
  subst hie
  clear hX hlt
  refine Len_spec dk ⟨_, rfl, ?_⟩
  rw [hfl]
  try dsimp only
  have e1 : IntKind.i64.wrap (IntKind.i64.wrap (1048576 - ((36 * 253 + 253 * 4096 : Nat) : Int)) - 36) = ((3144 : Nat) : Int) := by decide
  rw [e1, if_neg (by decide), if_neg (by decide)]
  have hsn := o4.len
  rw [List.length_map, List.length_replicate] at hsn
  have hpl : s4.plain := o4.rd.plain (by simp)
  have sub : ∀ q : GH, RdC 1 q 8 s4 ((List.replicate 4096 (0 : Int)).map byV) → RdC 1 q 8 ⟨s4.a, 3144, s4.c⟩ ((List.replicate 3144 (0 : Int)).map byV) := by
    intro q r
    have := r.take (n := 3144) (k := s4.c) (by rw [List.length_map, List.length_replicate]; decide)
    rw [← List.map_take, List.take_replicate] at this
    exact this
  have hz' : ∀ b ∈ [List.replicate 3144 (0 : Int)], b.length ≤ 4096 := fun b hb => by simp only [List.mem_singleton] at hb; rw [hb, List.length_replicate]; decide
  have hz2 : ∀ b ∈ [List.replicate 3144 (0 : Int), []], b.length ≤ 4096 := fun b hb => by
    simp only [List.mem_cons, List.mem_nil_iff, or_false] at hb
    rcases hb with rfl | rfl
    · rw [List.length_replicate]; decide
    · simp
  refine slice_to hpl rfl (by omega) ?_
  refine newSl_C q 8 rfl fun s5 q5 m5 o5 hn5 hc5 => ?_
  have r5 : RowsC q5 8 s5 [List.replicate 3144 (0 : Int), []] := RowsC.two (a := ⟨s4.a, 3144, s4.c⟩) (b := ⟨none, 0, 0⟩) o5.rd ((sub q o4).mv m5 (by simp)) (by show 3144 ≤ s4.c; omega) (RdC.nil _ _ _ _ _) (Nat.le_refl _)
  have ht2 : total [List.replicate 3144 (0 : Int), []] = 3144 := by simp [total]
  have hl2 : ([List.replicate 3144 (0 : Int), []] : List (List Int)).length = 2 := rfl
  have x5 := x.mv m5 (by simp) (by simp)
  have dk5 := dk.mv m5 (by simp) (by simp)
  have j5 := j.mv m5 (by simp) (by simp) (by simp)
  refine jPut_spec ok3 (by decide) x5 dk5 j5 s5 _ r5 (fun b hb => by
    simp only [List.mem_cons, List.mem_nil_iff, or_false] at hb
    rcases hb with rfl | rfl
    · exact zerosByte _
    · simp) (by rw [hl2]; decide) (by simp) (fun _ hfit => absurd hfit (by rw [framesT_total, hfl, ht2, hl2]; decide)) (fun h => absurd hz2 h) (fun _ _ q6 m6 x6 => ⟨_, rfl, ?_⟩)
  rw [framesR] at x6
  replace m := (m.step m5 (by simp)).step m6 (by simp)
  replace o4 := (o4.mv m5 (by simp)).mv m6 (by simp)
  replace dk := dk5.mv m6 (by simp) (by simp)
  replace j := j5.mv m6 (by simp) (by simp) (by simp)
  clear x x5 dk5 j5 r5 o5 m5 m6
  try dsimp only
  rw [if_neg (by simp)]
  refine jLen_spec j ⟨_, rfl, ?_⟩
  try dsimp only
  rw [List.length_replicate, if_neg (by simp)]
  refine slice_to hpl rfl (by omega) ?_
  refine newSl_C q6 8 rfl fun s7 q7 m7 o7 hn7 hc7 => ?_
  have r7 : RowsC q7 8 s7 [List.replicate 3144 (0 : Int)] := RowsC.one (a := ⟨s4.a, 3144, s4.c⟩) o7.rd ((sub q6 o4).mv m7 (by simp)) (by show 3144 ≤ s4.c; omega)
  have ht1 : total [List.replicate 3144 (0 : Int)] = 3144 := by simp [total]
  refine jPut_spec ok3 (by decide) (x6.mv m7 (by simp) (by simp)) (dk.mv m7 (by simp) (by simp)) (j.mv m7 (by simp) (by simp) (by simp)) s7 _ r7 (fun b hb => by
    simp only [List.mem_singleton] at hb; rw [hb]; exact zerosByte _) (by simp) (by simp) (fun _ hfit q8 m8 x dk j => ⟨_, rfl, ?_⟩) (fun h => absurd hz' h) (fun _ h => absurd (by rw [framesT_total, hfl, ht1, List.length_singleton]; decide) h)
  rw [framesR] at x
  rw [putR] at dk
  replace m := (m.step m7 (by simp)).step m8 (by simp)
  clear x6 r7 o7 m7 m8
  try dsimp only
  rw [if_neg (by simp)]
  have hf3 := framesT_flat true [] 0 (List.replicate 253 (List.replicate 4096 (0 : Int)) ++ [List.replicate 3144 (0 : Int)])
  have ht3 : total (List.replicate 253 (List.replicate 4096 (0 : Int)) ++ [List.replicate 3144 (0 : Int)]) = 253 * 4096 + 3144 := by
    have h1 := total_rep 253 4096
    unfold total at h1 ⊢
    rw [List.flatten_append, List.length_append, h1]
    simp
  have hl3 : (List.replicate 253 (List.replicate 4096 (0 : Int)) ++ [List.replicate 3144 (0 : Int)]).length = 254 := by rw [List.length_append, List.length_replicate]; rfl
  rw [ht3, hl3] at hf3
  have hs3 : ∀ b ∈ List.replicate 253 (List.replicate 4096 (0 : Int)) ++ [List.replicate 3144 (0 : Int)], b.length ≤ 4096 := fun b hb => by
    rcases List.mem_append.1 hb with hb | hb
    · exact hz _ b hb
    · exact hz' b hb
  have hb3 : ∀ b ∈ List.replicate 253 (List.replicate 4096 (0 : Int)) ++ [List.replicate 3144 (0 : Int)], ∀ z ∈ b, isByte z := fun b hb => by
    rcases List.mem_append.1 hb with hb | hb
    · rw [List.eq_of_mem_replicate hb]; exact zerosByte _
    · simp only [List.mem_singleton] at hb; rw [hb]; exact zerosByte _
  generalize List.replicate 253 (List.replicate 4096 (0 : Int)) ++ [List.replicate 3144 (0 : Int)] = rs at *
  refine Len_spec dk ⟨_, rfl, ?_⟩
  rw [hf3]
  try dsimp only
  rw [if_neg (by decide)]
  refine newSl_C q8 8 rfl fun s9 q9 m9 o9 hn9 hc9 => ?_
  have r9 : RowsC q9 8 s9 [[]] := RowsC.one (a := ⟨none, 0, 0⟩) o9.rd (RdC.nil _ _ _ _ _) (Nat.le_refl _)
  have dk9 := dk.mv m9 (by simp) (by simp)
  refine jPut_spec ok3 (by decide) (x.mv m9 (by simp) (by simp)) dk9 (j.mv m9 (by simp) (by simp) (by simp)) s9 _ r9 (by simp) (by decide) (by omega) (fun _ hfit => absurd hfit (by rw [framesT_total, hf3]; decide)) (fun h => absurd (by simp) h) (fun _ _ q10 m10 x => ⟨_, rfl, ?_⟩)
  rw [framesR] at x
  replace m := (m.step m9 (by simp)).step m10 (by simp)
  replace dk := dk9.mv m10 (by simp) (by simp)
  try dsimp only
  rw [if_neg (by simp)]
  refine Reopen_spec (p := (framesT true [] 0 rs).1.flatten.length) ok3 x (by rw [List.take_length]; exact dk) (knownR rs 0) hs3 hb3 fun pj2 q11 m11 x dk j => ⟨(_, _), rfl, ?_⟩
  rw [cntJ_all rs _ (by rw [hf3, hl3, ht3]; exact Nat.le_refl _), List.take_length] at j
  try dsimp only
  rw [if_pos (by simp)]
  refine jLen_spec j ⟨_, rfl, ?_⟩
  rw [hl3]
  exact H (g.via q11 fun _ => 0) ((m.step m11 (by simp)).via (by simp) _)


/-! ### The statement -/
abbrev rowsS : List (List Int) := [[7], [], [8, 9, 10], [0, 0, 0, 0]]
abbrev KS : List Nat := 1 :: 2 :: 3 :: 4 :: 5 :: 6 :: 7 :: 8 :: 13 :: 17 :: SJ
/-- What the statement has at hand. -/
structure SS (g q : GH) (pm pp : Nat) (s6 s7 v10 : Sl) (fr : List Int) : Prop where
  m : Mv KS g.base q
  xm : Mk26 q 30 pm
  r6 : RowsC q 15 s6 rowsS
  fs : RdC 1 q 16 s7 (fr.map byV)
  fc : s7.n ≤ s7.c
  fp : s7.plain
  fl : fr.length = 152
  fb : ∀ z ∈ fr, isByte z
  dv : SlC q 15 (.sl (.int .u8)) v10 [[5], [6]]
  bp : BlkC q 13 pp (Dd 0 0 v10) T.zugzwanglaw26_Deed
theorem SS.step {g q q' : GH} {K : List Nat} {pm pp : Nat} {s6 s7 v10 : Sl} {fr : List Int} (b : SS g q pm pp s6 s7 v10 fr) (m : Mv K q q') (h : ∀ k ∈ K, k = 17) : SS g q' pm pp s6 s7 v10 fr := by
  have n : ∀ k, ¬ k = 17 → k ∉ K := fun k h1 hk => h1 (h k hk)
  exact ⟨b.m.step m (fun k hk => by rw [h k hk]; simp), b.xm.mv m (n _ (by decide)), b.r6.mv m (n _ (by decide)), b.fs.mv m (n _ (by decide)), b.fc, b.fp, b.fl, b.fb, b.dv.mv m (n _ (by decide)), b.bp.mv m (n _ (by decide))⟩
theorem SS.put {g q : GH} {pm pp : Nat} {s6 s7 v10 : Sl} {fr : List Int} (b : SS g q pm pp s6 s7 v10 fr) : DdOk q 15 (0, 0, v10, [[5], [6]]) := ⟨by show -9223372036854775808 ≤ (0 : Int) ∧ (0 : Int) ≤ 9223372036854775807; decide, by show -9223372036854775808 ≤ (0 : Int) ∧ (0 : Int) ≤ 9223372036854775807; decide, b.dv⟩
theorem szDd : sizeOfT Tryz.prog T.zugzwanglaw26_Deed = 3 := by kernel_rfl
theorem SS.load {g q : GH} {pm pp : Nat} {s6 s7 v10 : Sl} {fr : List Int} (b : SS g q pm pp s6 s7 v10 fr) {K : Array Value → Prop} (hK : K (Dd 0 0 v10)) : loadAggK (sizeOfT Tryz.prog T.zugzwanglaw26_Deed) q.h (some ⟨pp, 0, none⟩) K := loadAgg_whole b.bp (by rw [szDd]; rfl) hK

set_option maxHeartbeats 8000000 in
set_option maxRecDepth 100000 in
theorem JournalSmall_spec (g : GH) {R : Value → Heap → Prop} (H : ∀ g' : GH, Mv [] g g' → R (.bool true) g'.h) : HC Tryz.prog F.law26_JournalSmall #[] R g.h := by
  refine law26_JournalSmall.calls ?_
  unfold law26_JournalSmall.body
  have ok3 : okK [3, 4, 5, 6, 7] := by decide
  have m := Mv.refl KS g.base
  refine ⟨_, bldMk26, ?_⟩
  refine new_C g.base 30 fun pm q1 m1 bm => ?_
  have xm : Mk26 q1 30 pm := ⟨_, _, bm, rfl⟩
  refine newSl_C q1 15 rfl fun s3 q3 m3 o3 hn3 hc3 => ?_
  refine newSl_C q3 15 rfl fun s4 q4 m4 o4 hn4 hc4 => ?_
  refine newSl_C q4 15 rfl fun s5 q5 m5 o5 hn5 hc5 => ?_
  refine newSl_C q5 15 rfl fun s6 q6 m6 o6 hn6 hc6 => ?_
  have r6 : RowsC q6 15 s6 rowsS := by
    refine RowsC.of (sls := [s3, ⟨none, 0, 0⟩, s4, s5]) o6.rd rfl fun i sl xs h1 h2 => ?_
    rcases i with _ | _ | _ | _ | i
    · simp at h1 h2; subst h1 h2; exact ⟨((o3.rd.mv m4 (by simp)).mv m5 (by simp)).mv m6 (by simp), by omega⟩
    · simp at h1 h2; subst h1 h2; exact ⟨RdC.nil _ _ _ _ _, Nat.le_refl _⟩
    · simp at h1 h2; subst h1 h2; exact ⟨(o4.rd.mv m5 (by simp)).mv m6 (by simp), by omega⟩
    · simp at h1 h2; subst h1 h2; exact ⟨o5.rd.mv m6 (by simp), by omega⟩
    · simp at h1
  have e6 : Mv [] q1 q6 := ((m3.step m4 (by simp)).step m5 (by simp)).step m6 (by simp)
  replace m := (m.step m1 (by simp)).step e6 (by simp)
  replace xm := xm.mv e6 (by simp)
  have hby : ∀ r ∈ rowsS, ∀ z ∈ r, isByte z := by simp [rowsS, isByte]
  refine frames26_spec xm s6 rowsS r6 (by decide) (by decide) hby 16 fun s7 q7 m7 o7 => ⟨_, rfl, ?_⟩
  have hfb := framesT_byte true rowsS [] 0 hby
  have hfl : (framesT true [] 0 rowsS).1.flatten.length = 152 := by rw [framesT_flat]; decide
  generalize (framesT true [] 0 rowsS).1.flatten = fr at o7 hfb hfl
  refine newSl_C q7 15 rfl fun s8 q8 m8 o8 hn8 hc8 => ?_
  refine newSl_C q8 15 rfl fun s9 q9 m9 o9 hn9 hc9 => ?_
  refine newSl_C q9 15 rfl fun v10 q10 m10 o10 hn10 hc10 => ?_
  have e10 : Mv [] q6 q10 := ((m7.step m8 (by simp)).step m9 (by simp)).step m10 (by simp)
  have dv : SlC q10 15 (.sl (.int .u8)) v10 [[5], [6]] := by
    refine SlC.ofSls (sls := [s8, s9]) o10.rd o10.cap (by simp) rfl fun i sl xs h1 h2 => ?_
    rcases i with _ | _ | i
    · simp at h1 h2; subst h1 h2
      exact bytesSl ((o8.rd.mv m9 (by simp)).mv m10 (by simp)) (by omega) (by simp) (by simp [isByte])
    · simp at h1 h2; subst h1 h2
      exact bytesSl (o9.rd.mv m10 (by simp)) (by omega) (by simp) (by simp [isByte])
    · simp at h1
  refine ⟨_, build_Deed26 v10, ?_⟩
  refine newStore_C q10 13 (by rw [szDd]; rfl) (by rw [szDd]; kernel_rfl) (fun v hv => by
    simp only [List.mem_cons, List.mem_nil_iff, or_false] at hv
    rcases hv with rfl | rfl | rfl <;> rfl) fun pp q11 m11 bp => ?_
  have e11 : Mv [] q6 q11 := e10.step m11 (by simp)
  have ss : SS g q11 pm pp s6 s7 v10 fr := ⟨m.step e11 (by simp), xm.mv e11 (by simp), r6.mv e11 (by simp), (((o7.mv m8 (by simp)).mv m9 (by simp)).mv m10 (by simp)).rd.mv m11 (by simp), o7.cap, o7.plain, hfl, hfb, dv.mv m11 (by simp), bp⟩
  clear bp dv o10 o9 o8 o7 r6 o6 o5 o4 o3 xm bm m m1 m3 m4 m5 m6 m7 m8 m9 m10 m11 e6 e10 e11 hfb hfl hby
  clear hn3 hc3 hn4 hc4 hn5 hc5 hn6 hc6 hn8 hc8 hn9 hc9 hn10 hc10
  have h7 : s7.n = 152 := by have := ss.fs.len; rw [List.length_map, ss.fl] at this; exact this
  -- the first loop
  refine loopW_rule (fun st h' => ∃ (c : Nat) (q : GH), c ≤ 153 ∧ st = (c : Int) ∧ h' = q.h ∧ SS g q pm pp s6 s7 v10 fr) (fun st => 153 - st.toNat) ⟨0, q11, by omega, rfl, rfl, ss⟩ ?_
  clear ss
  rintro X _ _ ⟨c, q, hc, rfl, rfl, ss⟩ hX
  try dsimp only
  by_cases hlt : c ≤ 152
  · rw [if_pos (by simp; omega)]
    have fl := ss.fl
    have fb := ss.fb
    have hci : -9223372036854775808 ≤ (c : Int) ∧ (c : Int) ≤ 9223372036854775807 := by omega
    have fc := ss.fc
    -- the beginning
    refine slice_to ss.fp rfl (by omega) ?_
    refine ss.load ?_
    have r1 := ss.fs.take (n := c) (k := s7.c) (by rw [List.length_map]; omega)
    rw [← List.map_take] at r1
    refine mkDds_C q 15 [(0, 0, v10, [[5], [6]])] rfl (by simp) (by simp) (fun x hx => by simp only [List.mem_singleton] at hx; rw [hx]; exact ss.put) rfl fun sd q2 m2 sl2 => ?_
    refine JournalDoes_spec q2 _ _ (bytesSl (r1.mv m2 (by simp)) (by show c ≤ s7.c; omega) (by rw [List.length_take]; omega) (fun z h => fb z (List.mem_of_mem_take h))) sd _ sl2 fun q3 m3 => ⟨_, rfl, ?_⟩
    replace ss := (ss.step m2 (by simp)).step m3 (by simp)
    try dsimp only
    rw [if_neg (by simp)]
    -- the rest
    refine slice_from (n := c) rfl (by omega) fc ?_
    refine ⟨_, bldDd2 _, ?_⟩
    refine ss.load ?_
    have r4 := ss.fs.drop (n := c) (sz := sizeOfT Tryz.prog T.uint8) (by kernel_rfl) (by rw [List.length_map]; omega) fc
    rw [← List.map_drop] at r4
    refine mkDds_C q3 15 [(0, 0, v10, [[5], [6]]), (2, c, ⟨none, 0, 0⟩, [])] rfl (by simp) (by simp) (fun x hx => by
      simp only [List.mem_cons, List.mem_nil_iff, or_false] at hx
      rcases hx with rfl | rfl
      · exact ss.put
      · exact DdOk.none _ _ (by decide) hci) rfl fun sd2 q4 m4 sl4 => ?_
    refine JournalDoes_spec q4 _ _ (bytesSl (r4.mv m4 (by simp)) (by show s7.n - c ≤ s7.c - c; omega) (by rw [List.length_drop]; omega) (fun z h => fb z (List.mem_of_mem_drop h))) sd2 _ sl4 fun q5 m5 => ⟨_, rfl, ?_⟩
    replace ss := (ss.step m4 (by simp)).step m5 (by simp)
    try dsimp only
    rw [if_neg (by simp)]
    -- falls
    refine ⟨_, bldDd1, ?_⟩
    refine ⟨_, bldDd2 _, ?_⟩
    refine ss.load ?_
    refine ss.load ?_
    refine mkDds_C q5 15 [(1, 0, ⟨none, 0, 0⟩, []), (0, 0, v10, [[5], [6]]), (2, c, ⟨none, 0, 0⟩, []), (0, 0, v10, [[5], [6]])] rfl (by simp) (by simp) (fun x hx => by
      simp only [List.mem_cons, List.mem_nil_iff, or_false] at hx
      rcases hx with rfl | rfl | rfl | rfl
      · exact DdOk.none _ _ (by decide) (by decide)
      · exact ss.put
      · exact DdOk.none _ _ (by decide) hci
      · exact ss.put) rfl fun sd3 q6 m6 sl6 => ?_
    refine JournalDoes_spec (c := 0) q6 ⟨none, 0, 0⟩ [] (SlC.nil _ _ _) sd3 _ sl6 fun q7 m7 => ⟨_, rfl, ?_⟩
    replace ss := (ss.step m6 (by simp)).step m7 (by simp)
    try dsimp only
    rw [if_neg (by simp)]
    by_cases hlt2 : c < 152
    rotate_left
    · rw [if_neg (by simp; omega), wrapSucc (by omega)]
      exact hX _ _ ⟨c + 1, q7, by omega, rfl, rfl, ss⟩ (by simp; omega)
    rw [if_pos (by simp; omega)]
    -- one byte is another one
    refine newSl_C q7 17 rfl fun s8 q8 m8 o8 hn8 hc8 => ?_
    replace ss := ss.step m8 (by simp)
    have o8' : OwnC T.uint8 1 q8 17 s8 (([] : List Int).map byV) := o8
    refine appB o8' ss.fs (by rw [fl, List.length_nil]; omega) fun s9 q9 m9 o9 => ?_
    rw [List.nil_append] at o9
    replace ss := ss.step m9 (by simp)
    have hcF : c < fr.length := by omega
    have ev : (fr.map byV)[((c : Int)).toNat]? = some (Kd.inj (.int .u8) fr[c]) := by simp [hcF]; rfl
    refine idxLoad_C o9.rd (by kernel_rfl) (by omega) fr[c] ev ?_
    refine idxStore_C o9 (by kernel_rfl) (by rw [List.length_map]; exact hcF) rfl fun q10 m10 o10 => ?_
    replace ss := ss.step m10 (by simp)
    have o10' : OwnC T.uint8 1 q10 17 s9 ((fr.set c (IntKind.u8.wrap (fr[c] + 1))).map byV) := by rw [List.map_set]; exact o10
    refine ss.load ?_
    refine ⟨_, bldDd0, ?_⟩
    refine mkDds_C q10 15 [(0, 0, v10, [[5], [6]]), (3, 0, ⟨none, 0, 0⟩, [])] rfl (by simp) (by simp) (fun x hx => by
      simp only [List.mem_cons, List.mem_nil_iff, or_false] at hx
      rcases hx with rfl | rfl
      · exact ss.put
      · exact DdOk.none _ _ (by decide) (by decide)) rfl fun sd4 q11 m11 sl11 => ?_
    refine JournalDoes_spec q11 _ _ (bytesSl (o10'.rd.mv m11 (by simp)) o10'.cap (by rw [List.length_set]; omega) (fun z h => by
      rcases List.mem_or_eq_of_mem_set h with h | h
      · exact fb z h
      · rw [h]; exact byte_wrapJ _)) sd4 _ sl11 fun q12 m12 => ⟨_, rfl, ?_⟩
    replace ss := (ss.step m11 (by simp)).step m12 (by simp)
    try dsimp only
    rw [if_neg (by simp), wrapSucc (by omega)]
    exact hX _ _ ⟨c + 1, q12, by omega, rfl, rfl, ss⟩ (by simp; omega)
  rw [if_neg (by simp; omega)]
  clear hX hlt hc
  -- the second loop
  refine loopW_rule (fun st h' => ∃ (i : Nat) (q : GH), i ≤ 4 ∧ st = (i : Int) ∧ h' = q.h ∧ SS g q pm pp s6 s7 v10 fr) (fun st => 4 - st.toNat) ⟨0, q, by omega, rfl, rfl, ss⟩ ?_
  clear ss
  rintro X _ _ ⟨i, q, hi, rfl, rfl, ss⟩ hX
  try dsimp only
  by_cases hlt : i < 4
  · rw [if_pos (by simp; omega)]
    have hir : i < rowsS.length := hlt
    refine ss.r6.idx (by kernel_rfl) hir fun sl rsl hsl => ?_
    have hx : rowsS[i].length ≤ 4 := (by decide : ∀ r ∈ rowsS, r.length ≤ 4) _ (List.getElem_mem hir)
    have hzb : ∀ z ∈ rowsS[i], isByte z := (by simp [rowsS, isByte] : ∀ r ∈ rowsS, ∀ z ∈ r, isByte z) _ (List.getElem_mem hir)
    refine refFrame_spec ss.xm i sl _ rsl hsl (by omega) hzb 18 fun sf q2 m2 of => ⟨_, rfl, ?_⟩
    have hfl := frameT_len true [] i rowsS[i]
    have hfb := frameT_byte true [] i hzb
    generalize (frameT true [] i rowsS[i]).1 = Fr at of hfl hfb
    have ss2 := ss.step m2 (by simp)
    have hii : -9223372036854775808 ≤ (i : Int) ∧ (i : Int) ≤ 9223372036854775807 := by omega
    have h00 : -9223372036854775808 ≤ (0 : Int) ∧ (0 : Int) ≤ 9223372036854775807 := by decide
    have of2 := of.rd
    have fb := ss.fb
    have fl := ss.fl
    clear ss of rsl
    obtain ⟨S, hS⟩ : ∃ S : Option (Sl × Nat) → Option Sl → GH → Prop, ∀ oa ob q, S oa ob q ↔ (SS g q pm pp s6 s7 v10 fr ∧ RdC 1 q 18 sf (Fr.map byV) ∧ (∀ a n, oa = some (a, n) → ∃ xs : List Int, OwnC T.uint8 1 q 17 a (xs.map byV) ∧ xs.length ≤ 1000 * n ∧ n ≤ 5 ∧ ∀ z ∈ xs, isByte z) ∧ (∀ d, ob = some d → ∃ l, SlC q 15 ShDeed d l)) := ⟨_, fun _ _ _ => Iff.rfl⟩
    have sN : ∀ {ob : Option Sl} {q : GH}, S none ob q → ∀ {K : Sl → Heap → Prop}, (∀ s q', S (some (s, 0)) ob q' → K s q'.h) → newSlK q.h 0 #[] T.uint8 K := by
      intro ob q s K hK
      obtain ⟨s1, s2, s3, s4⟩ := (hS _ _ _).1 s
      refine newSl_C q 17 rfl fun v q' m' o _ _ => hK v q' ((hS _ _ _).2 ⟨s1.step m' (by simp), s2.mv m' (by simp), fun a n e => ?_, fun d e => ?_⟩)
      · cases e; exact ⟨[], o, by simp, by omega, by simp⟩
      · obtain ⟨l, hl⟩ := s4 d e; exact ⟨l, hl.mv m' (by simp)⟩
    have sA : ∀ {sx : Sl} {ys : List Int} {d : Nat}, ys.length ≤ 1000 → (∀ z ∈ ys, isByte z) → (∀ q, SS g q pm pp s6 s7 v10 fr → RdC 1 q 18 sf (Fr.map byV) → RdC 1 q d sx (ys.map byV)) → ∀ {a : Sl} {n : Nat} {ob : Option Sl} {q : GH}, S (some (a, n)) ob q → n ≤ 4 → ∀ {K : Sl → Heap → Prop}, (∀ s q', S (some (s, n + 1)) ob q' → K s q'.h) →
        opK Tryz.prog .slice (Builtin.append_ #[T.sl_uint8, T.sl_uint8] T.sl_uint8 #[.slice a.a a.n a.c, .slice sx.a sx.n sx.c]) K q.h := by
      intro sx ys d hyl hyb hy a n ob q s hn K hK
      obtain ⟨s1, s2, s3, s4⟩ := (hS _ _ _).1 s
      obtain ⟨xs, o, hl, h5, hb⟩ := s3 a n rfl
      refine appB o (hy q s1 s2) (by omega) fun v q' m' o' => hK v q' ((hS _ _ _).2 ⟨s1.step m' (by simp), s2.mv m' (by simp), fun a' n' e => ?_, fun d e => ?_⟩)
      · cases e
        refine ⟨_, o', by rw [List.length_append]; omega, by omega, fun z hz => ?_⟩
        rcases List.mem_append.1 hz with hz | hz
        · exact hb z hz
        · exact hyb z hz
      · obtain ⟨l, hl⟩ := s4 d e; exact ⟨l, hl.mv m' (by simp)⟩
    have sF : ∀ {a : Sl} {n : Nat} {ob : Option Sl} {q : GH}, S (some (a, n)) ob q → n ≤ 4 → ∀ {K : Sl → Heap → Prop}, (∀ s q', S (some (s, n + 1)) ob q' → K s q'.h) → opK Tryz.prog .slice (Builtin.append_ #[T.sl_uint8, T.sl_uint8] T.sl_uint8 #[.slice a.a a.n a.c, .slice s7.a s7.n s7.c]) K q.h := fun s hn K hK => sA (ys := fr) (by omega) fb (fun q s1 s2 => s1.fs) s hn hK
    have sR : ∀ {a : Sl} {n : Nat} {ob : Option Sl} {q : GH}, S (some (a, n)) ob q → n ≤ 4 → ∀ {K : Sl → Heap → Prop}, (∀ s q', S (some (s, n + 1)) ob q' → K s q'.h) → opK Tryz.prog .slice (Builtin.append_ #[T.sl_uint8, T.sl_uint8] T.sl_uint8 #[.slice a.a a.n a.c, .slice sf.a sf.n sf.c]) K q.h := fun s hn K hK => sA (ys := Fr) (by omega) hfb (fun q s1 s2 => s2) s hn hK
    have sB : ∀ {oa : Option (Sl × Nat)} {q : GH}, S oa none q → ∀ {b : Int}, (-9223372036854775808 ≤ b ∧ b ≤ 9223372036854775807) → ∀ {K : Sl → Heap → Prop}, (∀ s q', S oa (some s) q' → K s q'.h) → opK Tryz.prog .slice (Instr.buildSlice T.sl_zugzwanglaw26_Deed 2 #[(0, .agg (Dd 0 0 v10)), (1, .agg (Dd 3 b ⟨none, 0, 0⟩))]) K q.h := by
      intro oa q s b hb K hK
      obtain ⟨s1, s2, s3, s4⟩ := (hS _ _ _).1 s
      refine mkDds_C q 15 [(0, 0, v10, [[5], [6]]), (3, b, ⟨none, 0, 0⟩, [])] rfl (by simp) (by simp) (fun x hx => by
        simp only [List.mem_cons, List.mem_nil_iff, or_false] at hx
        rcases hx with rfl | rfl
        · exact s1.put
        · exact DdOk.none _ _ (by decide) hb) rfl fun sd q' m' sl' => hK sd q' ((hS _ _ _).2 ⟨s1.step m' (by simp), s2.mv m' (by simp), fun a n e => ?_, fun d e => ?_⟩)
      · obtain ⟨xs, o, h⟩ := s3 a n e; exact ⟨xs, o.mv m' (by simp), h⟩
      · cases e; exact ⟨_, sl'⟩
    have sL : ∀ {oa : Option (Sl × Nat)} {ob : Option Sl} {q : GH}, S oa ob q → ∀ {K : Array Value → Prop}, K (Dd 0 0 v10) → loadAggK (sizeOfT Tryz.prog T.zugzwanglaw26_Deed) q.h (some ⟨pp, 0, none⟩) K := fun s K hK => ((hS _ _ _).1 s).1.load hK
    have sT : ∀ {oa : Option (Sl × Nat)} {ob : Option Sl} {q : GH}, S oa ob q → stillAggK (sizeOfT Tryz.prog T.zugzwanglaw26_Deed) q.h (some ⟨pp, 0, none⟩) (Dd 0 0 v10) := fun s => ((hS _ _ _).1 s).1.load rfl
    have sJ : ∀ {a d : Sl} {n : Nat} {q : GH}, S (some (a, n)) (some d) q → ∀ {K : Bool → Heap → Prop}, (∀ q', S none none q' → K true q'.h) → callK Tryz.prog .bool F.law26_JournalDoes #[.slice a.a a.n a.c, .slice d.a d.n d.c] K q.h := by
      intro a d n q s K hK
      obtain ⟨s1, s2, s3, s4⟩ := (hS _ _ _).1 s
      obtain ⟨xs, o, h1, h2, h3⟩ := s3 a n rfl
      obtain ⟨l, hl⟩ := s4 d rfl
      refine JournalDoes_spec q a xs (bytesSl o.rd o.cap (by omega) h3) d l hl fun q' m' => ⟨_, rfl, ?_⟩
      exact hK q' ((hS _ _ _).2 ⟨s1.step m' (by simp), s2.mv m' (by simp), fun _ _ e => (by cases e), fun _ e => (by cases e)⟩)
    have sX : ∀ {q : GH}, S none none q → X (IntKind.i64.wrap ((i : Int) + 1)) q.h := by
      intro q s
      rw [wrapSucc (by omega)]
      exact hX _ _ ⟨i + 1, q, by omega, rfl, rfl, ((hS _ _ _).1 s).1⟩ (by simp; omega)
    have s0 : ∀ {K : Array Value → Prop}, K (Dd 3 0 ⟨none, 0, 0⟩) → buildK Tryz.prog (Instr.build T.zugzwanglaw26_Deed #[(0, .int .i64 3)]) K := fun h => ⟨_, bldDd0, h⟩
    have st : S none none q2 := (hS _ _ _).2 ⟨ss2, of2, fun _ _ e => (by cases e), fun _ e => (by cases e)⟩
    refine ⟨_, bldDd3 _, ?_⟩
    clear hS ss2 of2 hX sA m2
    repeat' (first
      | with_reducible exact sT st
      | with_reducible exact sX st
      | (with_reducible refine sL st ?_; try dsimp only)
      | (with_reducible refine sN st ?_; intro s' q' st; try dsimp only)
      | (with_reducible refine sF st (by decide) ?_; intro s' q' st; try dsimp only)
      | (with_reducible refine sR st (by decide) ?_; intro s' q' st; try dsimp only)
      | (with_reducible refine sB st hii ?_; intro s' q' st; try dsimp only)
      | (with_reducible refine sB st h00 ?_; intro s' q' st; try dsimp only)
      | (with_reducible refine sJ st ?_; intro q' st; try dsimp only)
      | (rw [if_neg (show ¬ ((!true) = true) by simp)])
      | (with_reducible refine s0 ?_; try dsimp only)
      | with_reducible refine And.intro ?_ ?_)
  rw [if_neg (by simp; omega)]
  clear hX hlt
  have m := ss.m
  clear ss
  refine NewDisk_spec q 3 4 (by decide) ⟨none, 0, 0⟩ [] (RowsC.nil q 0 _ _) (by decide) (by decide) (fun pd q1 _ m1 dk => ⟨(_, _), rfl, ?_⟩) (fun _ h => absurd (by decide) h)
  replace m := m.step m1 (by simp)
  refine makNew_spec q1 1 2 true ⟨none, 0, 0⟩ [] (RdC.nil _ _ 0 _ _) (by simp) (by simp) fun pk q2 m2 x => ⟨_, rfl, ?_⟩
  replace m := m.step m2 (by simp)
  refine Reopen_spec (rs := []) (p := 0) ok3 x (dk.mv m2 (by simp) (by simp)) trivial (by simp) (by simp) fun pj q3 m3 x dk j => ⟨(_, _), rfl, ?_⟩
  rw [List.take_nil] at dk j
  replace m := m.step m3 (by simp)
  try dsimp only
  refine joinW_intro (fun _ h' => ∃ (q : GH) (safe : Nat), h' = q.h ∧ Mv KS g.base q ∧ DiskC q 3 4 pd safe (framesT true [] 0 [List.replicate 4096 (0 : Int)]).1.flatten) ?_ ?_
  · intro J hJ
    rw [if_neg (by simp)]
    have hf0 : (framesT true [] 0 ([] : List (List Int))).1.flatten.length = 0 := rfl
    have tail : ∀ (q : GH) (sA sB : Sl), Mv [] q3 q → RdC 1 q 8 sA ((List.replicate 4096 (0 : Int)).map byV) → sA.n ≤ sA.c → RdC 1 q 8 sB ((List.replicate 4097 (0 : Int)).map byV) → sB.n ≤ sB.c →
        newSlK q.h 2 #[slV sA, slV sB] T.sl_uint8 (fun v h => callK Tryz.prog (.int .i64) F.journal_Journal_Put #[ptrV pj, .slice v.a v.n v.c] (fun (v : Int) h => if (v != 2) = true then R (.bool false) h else callK Tryz.prog (.int .i64) F.journal_Journal_Len #[ptrV pj] (fun (v : Int) h => if (v != 0) = true then R (.bool false) h else callK Tryz.prog (.int .i64) F.disk_Disk_Len #[ptrV pd] (fun (v : Int) h => if (v != 0) = true then R (.bool false) h else
          opK Tryz.prog .slice (Instr.makeSlice T.sl_uint8 (.int .i64 4096) (.int .i64 4096)) (fun (v : Sl) h => newSlK h 1 #[.slice v.a v.n v.c] T.sl_uint8 (fun (v : Sl) h => callK Tryz.prog (.int .i64) F.journal_Journal_Put #[ptrV pj, .slice v.a v.n v.c] (fun (v : Int) h => if (v != 0) = true then R (.bool false) h else callK Tryz.prog (.int .i64) F.journal_Journal_Len #[ptrV pj] (fun (v : Int) h => if (v != 1) = true then R (.bool false) h else J () h) h) h)) h) h) h) h) := by
      intro q sA sB e rA hA rB hB
      refine newSl_C q 8 rfl fun s5 q5 m5 o5 hn5 hc5 => ?_
      have r5 : RowsC q5 8 s5 [List.replicate 4096 (0 : Int), List.replicate 4097 (0 : Int)] := RowsC.two o5.rd (rA.mv m5 (by simp)) hA (rB.mv m5 (by simp)) hB
      have e5 := e.step m5 (by simp)
      have x5 := x.mv e5 (by simp) (by simp)
      have dk5 := dk.mv e5 (by simp) (by simp)
      have j5 := j.mv e5 (by simp) (by simp) (by simp)
      have hno : ¬ ∀ b ∈ [List.replicate 4096 (0 : Int), List.replicate 4097 (0 : Int)], b.length ≤ 4096 := fun h => by
        have := h (List.replicate 4097 (0 : Int)) (by simp)
        rw [List.length_replicate] at this
        omega
      refine jPut_spec ok3 (by decide) x5 dk5 j5 s5 _ r5 (fun b hb => by
        simp only [List.mem_cons, List.mem_nil_iff, or_false] at hb
        rcases hb with rfl | rfl <;> exact zerosByte _) (by simp) (by simp) (fun h => absurd h hno) (fun _ => ⟨_, rfl, ?_⟩) (fun h => absurd h hno)
      try dsimp only
      rw [if_neg (by simp)]
      refine jLen_spec j5 ⟨_, rfl, ?_⟩
      try dsimp only
      rw [if_neg (by simp)]
      refine Len_spec dk5 ⟨_, rfl, ?_⟩
      rw [hf0]
      try dsimp only
      rw [if_neg (by simp)]
      refine make_C (e := T.uint8) (by_ := 1) (z := .int .u8 0) (l := 4096) (k := 4096) (by kernel_rfl) (by kernel_rfl) rfl (by omega) q5 8 (by omega) (by omega) fun s6 q6 m6 o6 hn6 hc6 _ => ?_
      rw [zerosMap] at o6
      refine newSl_C q6 8 rfl fun s7 q7 m7 o7 hn7 hc7 => ?_
      have r7 : RowsC q7 8 s7 [List.replicate 4096 (0 : Int)] := RowsC.one o7.rd (o6.rd.mv m7 (by simp)) (by omega)
      have ht1 : total [List.replicate 4096 (0 : Int)] = 4096 := by simp [total]
      have e7 : Mv [] q5 q7 := m6.step m7 (by simp)
      refine jPut_spec ok3 (by decide) (x5.mv e7 (by simp) (by simp)) (dk5.mv e7 (by simp) (by simp)) (j5.mv e7 (by simp) (by simp) (by simp)) s7 _ r7 (fun b hb => by
        simp only [List.mem_singleton] at hb; rw [hb]; exact zerosByte _) (by simp) (by simp) (fun _ hfit q8 m8 x dk j => ⟨_, rfl, ?_⟩) (fun h => absurd (fun b hb => by simp only [List.mem_singleton] at hb; rw [hb, List.length_replicate]; exact Nat.le_refl _) h) (fun _ h => absurd (by rw [framesT_total, hf0, ht1, List.length_singleton]; decide) h)
      rw [putR, List.nil_append] at dk
      try dsimp only
      rw [if_neg (by simp)]
      refine jLen_spec j ⟨_, rfl, ?_⟩
      try dsimp only
      rw [if_neg (by simp)]
      exact hJ _ _ ⟨q8, _, rfl, ((m.step e5 (by simp)).step e7 (by simp)).step m8 (by simp), dk⟩
    refine ⟨?_, ?_⟩
    · refine make_C (e := T.uint8) (by_ := 1) (z := .int .u8 0) (l := 4096) (k := 4096) (by kernel_rfl) (by kernel_rfl) rfl (by omega) q3 8 (by omega) (by omega) fun sA q4 m4 o4 hn4 hc4 _ => ?_
      refine make_C (e := T.uint8) (by_ := 1) (z := .int .u8 0) (l := 4097) (k := 4097) (by kernel_rfl) (by kernel_rfl) rfl (by omega) q4 8 (by omega) (by omega) fun sB q5 m5 o5 hn5 hc5 _ => ?_
      rw [zerosMap] at o4 o5
      exact tail q5 sA sB (m4.step m5 (by simp)) (o4.rd.mv m5 (by simp)) (by omega) o5.rd (by omega)
    · refine make_C (e := T.uint8) (by_ := 1) (z := .int .u8 0) (l := 4097) (k := 4097) (by kernel_rfl) (by kernel_rfl) rfl (by omega) q3 8 (by omega) (by omega) fun sB q4 m4 o4 hn4 hc4 _ => ?_
      refine make_C (e := T.uint8) (by_ := 1) (z := .int .u8 0) (l := 4096) (k := 4096) (by kernel_rfl) (by kernel_rfl) rfl (by omega) q4 8 (by omega) (by omega) fun sA q5 m5 o5 hn5 hc5 _ => ?_
      rw [zerosMap] at o4 o5
      exact tail q5 sA sB (m4.step m5 (by simp)) o5.rd (by omega) (o4.rd.mv m5 (by simp)) (by omega)
  rintro _ _ ⟨q4, safe, rfl, m, dk⟩
  clear x j m1 m2 m3
  refine makNew_spec q4 1 2 true ⟨none, 0, 0⟩ [] (RdC.nil _ _ 0 _ _) (by simp) (by simp) fun pk2 q5 m5 x => ⟨_, rfl, ?_⟩
  replace m := m.step m5 (by simp)
  have hf1 := framesT_flat true [] 0 [List.replicate 4096 (0 : Int)]
  refine Reopen_spec (rs := [List.replicate 4096 (0 : Int)]) (p := (framesT true [] 0 [List.replicate 4096 (0 : Int)]).1.flatten.length) ok3 x (by rw [List.take_length]; exact dk.mv m5 (by simp) (by simp)) (knownR _ 0) (fun b hb => by simp only [List.mem_singleton] at hb; rw [hb, List.length_replicate]; exact Nat.le_refl _) (fun b hb => by simp only [List.mem_singleton] at hb; rw [hb]; exact zerosByte _) fun pj2 q6 m6 x dk j => ⟨(_, _), rfl, ?_⟩
  rw [cntJ_all _ _ (by rw [hf1]; exact Nat.le_refl _), List.take_length] at j
  replace m := m.step m6 (by simp)
  try dsimp only
  rw [if_pos (by simp)]
  refine jLen_spec j ⟨_, rfl, ?_⟩
  try dsimp only
  rw [if_pos (by simp)]
  refine full26_spec q6 fun q7 m7 => ⟨_, rfl, ?_⟩
  try dsimp only
  rw [if_pos rfl]
  refine none26_spec q7 fun q8 m8 => ⟨_, rfl, ?_⟩
  try dsimp only
  rw [if_pos rfl]
  refine awake26_spec q8 fun q9 m9 => ⟨_, rfl, ?_⟩
  exact H (g.via q9 fun _ => 0) ((((m.step m7 (by simp)).step m8 (by simp)).step m9 (by simp)).via (by simp) _)

theorem JournalSmall_walk (h : Heap) : HC Tryz.prog F.law26_JournalSmall #[] (fun v h' => v = .bool true ∧ Ext h h') h :=
  JournalSmall_spec ⟨h, fun _ => 0⟩ fun g' m => ⟨rfl, m.ext (by simp)⟩

end Go.Proofs.YtgongoaiflphaaaGreat
