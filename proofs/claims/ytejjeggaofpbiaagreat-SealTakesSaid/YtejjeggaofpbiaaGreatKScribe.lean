/-
  The package msg: contracts of its functions. What is written.
-/
import Derived.Test.YtejjeggaofpbiaaGreatKMsg
import Derived.Test.YtejjeggaofpbiaaGreatKFields
import Derived.Test.YtejjeggaofpbiaaGreatKFlat
import Derived.Test.YtejjeggaofpbiaaGreatMaps
set_option linter.unusedSimpArgs false
set_option linter.unusedVariables false
namespace Go.Proofs.YtejjeggaofpbiaaGreat
open Go Go.Ev

/-! ### In plain Lean -/

def moveB (m : MoveT) : List Int := [m.1, m.2.1, m.2.2.1]
def offerN (b : Bool) : Int := if b = true then 1 else 0
def bodyB (b : BodyT) : List Int :=
  if b.say = 1 then moveB b.move ++ [offerN b.offer] else if b.say = 2 then [b.claim] else if b.say = 5 then b.sealed else if b.say = 7 then moveB b.move ++ b.nonce else []
def entryB (e : EntryT) : List Int := e.game ++ (fourB e.number ++ (e.ahead ++ (e.what.say :: bodyB e.what)))
def msgB (m : MsgT) : List Int :=
  if m.kind = 3 then 3 :: entryB m.entry else m.kind :: (m.game ++ (m.sender :: (if m.kind = 1 then m.commit else if m.kind = 2 then m.bit :: m.nonce else [])))

theorem sqByte {n : Int} (h : sqOk n = true) : isByte n := by unfold sqOk at h; unfold isByte; simp at h; omega
theorem becByte {n : Int} (h : becOk n = true) : isByte n := by unfold becOk at h; unfold isByte; simp at h; omega
theorem moveByte {m : MoveT} (h : moveOk m = true) : ∀ x ∈ moveB m, isByte x := by
  unfold moveOk at h
  simp only [Bool.and_eq_true] at h
  intro x hx
  simp only [moveB, List.mem_cons, List.not_mem_nil, or_false] at hx
  rcases hx with rfl | rfl | rfl
  · exact sqByte h.1
  · exact sqByte h.2.1
  · exact becByte h.2.2
theorem bodyGood {b : BodyT} (h : bodyOk b = true) : (b.say = 1 ∧ moveOk b.move = true) ∨ (b.say = 2 ∧ (b.claim = 6 ∨ b.claim = 7)) ∨ b.say = 3 ∨ b.say = 4 ∨ b.say = 5 ∨ b.say = 6 ∨ (b.say = 7 ∧ moveOk b.move = true) := by
  unfold bodyOk at h
  simp only [Bool.and_eq_true] at h
  have h1 := h.1
  unfold namedD at h1
  by_cases s1 : b.say = 1
  · rw [if_pos s1] at h1; exact .inl ⟨s1, h1⟩
  rw [if_neg s1] at h1
  by_cases s2 : b.say = 2
  · rw [if_pos s2] at h1; simp at h1; exact .inr (.inl ⟨s2, h1⟩)
  rw [if_neg s2] at h1
  by_cases s5 : b.say = 5
  · exact .inr (.inr (.inr (.inr (.inl s5))))
  rw [if_neg s5] at h1
  by_cases s7 : b.say = 7
  · rw [if_pos s7] at h1; exact .inr (.inr (.inr (.inr (.inr (.inr ⟨s7, h1⟩)))))
  rw [if_neg s7] at h1
  simp at h1
  rcases h1 with (h1 | h1) | h1
  · exact .inr (.inr (.inl h1))
  · exact .inr (.inr (.inr (.inl h1)))
  · exact .inr (.inr (.inr (.inr (.inr (.inl h1)))))
theorem bodyB_len {b : BodyT} (ok : ShBody.ok b) : (bodyB b).length ≤ 35 := by
  have h1 := ok.2.2.2.2.1.1
  have h2 := ok.2.2.2.2.2.1.1
  unfold bodyB moveB
  split
  · simp
  split
  · simp
  split
  · show b.2.2.2.2.1.length ≤ 35; omega
  split
  · simp only [List.length_append, List.length_cons, List.length_nil]; show 3 + b.2.2.2.2.2.1.length ≤ 35; omega
  · simp
theorem entryB_len {e : EntryT} (ok : ShEntry.ok e) : (entryB e).length ≤ 104 := by
  have h1 : e.game.length = 32 := ok.1.1
  have h2 : e.ahead.length = 32 := ok.2.2.1.1
  have h3 : (bodyB e.what).length ≤ 35 := bodyB_len ok.2.2.2.1
  unfold entryB
  simp only [List.length_append, List.length_cons, fourB_length]
  omega
theorem msgB_len {m : MsgT} (ok : ShMsg.ok m) : (msgB m).length ≤ 105 := by
  have h1 : m.game.length = 32 := ok.2.1.1
  have h2 : m.commit.length = 32 := ok.2.2.2.1.1
  have h3 : m.nonce.length = 32 := ok.2.2.2.2.2.1.1
  have h4 : (entryB m.entry).length ≤ 104 := entryB_len ok.2.2.2.2.2.2.1
  unfold msgB
  split
  · simp only [List.length_cons]; omega
  · simp only [List.length_cons, List.length_append]
    split
    · omega
    split
    · simp only [List.length_cons]; omega
    · simp; omega
theorem entryGood {e : EntryT} (h : entryOk e = true) : (0 ≤ e.number ∧ e.number ≤ 4294967295) ∧ bodyOk e.what = true := by
  unfold entryOk at h
  simp only [Bool.and_eq_true, decide_eq_true_eq] at h
  exact ⟨⟨h.1, h.2.1⟩, h.2.2⟩

/-! ### Walks -/

abbrev scribeA (p : Nat) : Array Value := #[.pointer (some ⟨p, 0, none⟩)]

theorem mkTag1 (q : GH) (y : Nat) (t : List Int) (ok : ShTag.ok t) {K : Sl → Heap → Prop} (H : ∀ (s : Sl) (g' : GH), Mv [] q g' → SlC g' y ShTag s [t] → K s g'.h) : opK Tryz.prog .slice (Instr.buildSlice T.sl_api_Tag 1 #[(0, .agg ⟨ShTag.enc t⟩)]) K q.h :=
  mkTag_C q y ok fun s g' m o hc => H s g' m (o.slc rfl (by simp))

section
variable {g : GH} {kp kb p : Nat} {out : List Int}

end

/-! ### What is written of each body -/

abbrev fnV (f : FuncId) : Value := .func (.func f) #[] #[]
theorem uSay : Tryz.prog.underlying T.api_Say = some (.int .i64) := by kernel_rfl
theorem ckSay (n : Int) (b : Bool) (w : World) : (Instr.checkKey b 10000 T.api_Say (.int .i64 n)).run Tryz.prog w = .ok () w := by kernel_rfl

end Go.Proofs.YtejjeggaofpbiaaGreat

/-!
  The bytes of entries.
-/
namespace Go.Proofs.YtejjeggaofpbiaaGreat
open Go Go.Ev

def bytesIf (b : Bool) (l : List Int) : List Int := if b = true then l else []

/-! ### Bytes of entries -/

theorem bodyB_byte {b : BodyT} (ok : ShBody.ok b) (h : bodyOk b = true) : ∀ x ∈ bodyB b, isByte x := by
  have h1 : ∀ x ∈ b.sealed, isByte x := (okTagB ok.2.2.2.2.1).2
  have h2 : ∀ x ∈ b.nonce, isByte x := (okTagB ok.2.2.2.2.2.1).2
  intro x hx
  unfold bodyB at hx
  rcases bodyGood h with ⟨s, hm⟩ | ⟨s, hc⟩ | s | s | s | s | ⟨s, hm⟩
  · rw [if_pos s] at hx
    rcases List.mem_append.1 hx with hx | hx
    · exact moveByte hm x hx
    · rw [List.mem_singleton.1 hx]; unfold offerN isByte; split <;> omega
  · rw [if_neg (by omega), if_pos s] at hx
    rw [List.mem_singleton.1 hx]; unfold isByte; omega
  · rw [if_neg (by omega), if_neg (by omega), if_neg (by omega), if_neg (by omega)] at hx; cases hx
  · rw [if_neg (by omega), if_neg (by omega), if_neg (by omega), if_neg (by omega)] at hx; cases hx
  · rw [if_neg (by omega), if_neg (by omega), if_pos s] at hx; exact h1 x hx
  · rw [if_neg (by omega), if_neg (by omega), if_neg (by omega), if_neg (by omega)] at hx; cases hx
  · rw [if_neg (by omega), if_neg (by omega), if_neg (by omega), if_pos s] at hx
    rcases List.mem_append.1 hx with hx | hx
    · exact moveByte hm x hx
    · exact h2 x hx
theorem bodySay {b : BodyT} (h : bodyOk b = true) : isByte b.say := by
  unfold isByte
  rcases bodyGood h with ⟨s, _⟩ | ⟨s, _⟩ | s | s | s | s | ⟨s, _⟩ <;> omega
/-- An entry's bytes; none, if it is not right. -/
def entryBytes (e : EntryT) : List Int := bytesIf (entryOk e) (entryB e)
theorem entryBytes_byte {e : EntryT} (ok : ShEntry.ok e) : ∀ x ∈ entryBytes e, isByte x := by
  intro x hx
  unfold entryBytes bytesIf at hx
  split at hx
  · rename_i h
    unfold entryOk at h
    simp only [Bool.and_eq_true] at h
    have hb := h.2.2
    unfold entryB at hx
    simp only [List.mem_append, List.mem_cons] at hx
    rcases hx with hx | hx | hx | rfl | hx
    · exact (okTagB ok.1).2 x hx
    · exact fourB_byte _ x hx
    · exact (okTagB ok.2.2.1).2 x hx
    · exact bodySay hb
    · exact bodyB_byte ok.2.2.2.1 hb x hx
  · cases hx
theorem entryBytes_len {e : EntryT} (ok : ShEntry.ok e) : (entryBytes e).length ≤ 104 := by
  unfold entryBytes bytesIf
  split
  · exact entryB_len ok
  · simp

def rootB : List Int := [114, 111, 111, 116]
def linkB : List Int := [108, 105, 110, 107]

theorem over_part (pre mid post new : List Value) (h : mid.length = new.length) : overA ⟨pre ++ (mid ++ post)⟩ pre.length new = ⟨pre ++ (new ++ post)⟩ := by
  have e1 : (pre ++ (mid ++ post)).take pre.length = pre := List.take_left
  have e2 : (pre ++ (mid ++ post)).drop (pre.length + new.length) = post := by
    rw [← h, ← List.append_assoc, ← List.length_append, List.drop_left]
  show (((pre ++ (mid ++ post)).take pre.length ++ new ++ (pre ++ (mid ++ post)).drop (pre.length + new.length)).toArray) = _
  rw [e1, e2, List.append_assoc]

theorem over_at2 {pre mid post new : List Value} {n : Nat} (hn : pre.length = n) (h : mid.length = new.length) : overA ⟨pre ++ (mid ++ post)⟩ n new = ⟨pre ++ (new ++ post)⟩ := by
  subst hn
  exact over_part pre mid post new h
theorem build_Entry (game : List Int) (n : Int) (ahead : List Int) (b : BodyT) (hg : ShTag.ok game) (ha : ShTag.ok ahead) (hb : ShBody.ok b) (w : World) :
    (Instr.build T.api_Entry #[(0, .agg ⟨ShTag.enc game⟩), (1, .int .i64 n), (2, .agg ⟨ShTag.enc ahead⟩), (3, .agg ⟨ShBody.enc b⟩)]).run Tryz.prog w = .ok (.agg ⟨ShEntry.enc (game, n, ahead, b, ())⟩) w := by
  have l0 : (ShTag.enc zero32).length = 32 := lenTag ok0
  have lg := lenTag hg
  have la := lenTag ha
  have lb := lenBody hb
  have lb0 := lenBody okBody0
  refine build_struct (fs := structFs Tryz.prog T.api_Entry) (places := #[(0, 32), (32, 1), (33, 32), (65, 70)]) (by kernel_rfl) (z := ⟨[] ++ (ShTag.enc zero32 ++ ([.int .i64 0] ++ (ShTag.enc zero32 ++ (ShBody.enc body0 ++ []))))⟩) (fun w => by kernel_rfl) (fun w => by kernel_rfl) ?_ w
  rw [fillA_step (off := 0) (size := 32) rfl (by simpa [Value.cells] using lg) (by simp only [List.size_toArray, List.length_append, l0, lb0]; omega)]
  have e1 : overA ⟨[] ++ (ShTag.enc zero32 ++ ([.int .i64 0] ++ (ShTag.enc zero32 ++ (ShBody.enc body0 ++ []))))⟩ 0 (Value.agg ⟨ShTag.enc game⟩).cells.toList = ⟨ShTag.enc game ++ ([.int .i64 0] ++ (ShTag.enc zero32 ++ (ShBody.enc body0 ++ [])))⟩ := over_at2 (pre := []) (new := ShTag.enc game) rfl (by rw [l0, lg])
  rw [e1, fillA_step (off := 32) (size := 1) rfl rfl (by simp only [List.size_toArray, List.length_append, l0, lb0, lg, List.length_cons]; omega)]
  have e2 : overA ⟨ShTag.enc game ++ ([.int .i64 0] ++ (ShTag.enc zero32 ++ (ShBody.enc body0 ++ [])))⟩ 32 (Value.int .i64 n).cells.toList = ⟨(ShTag.enc game ++ [.int .i64 n]) ++ (ShTag.enc zero32 ++ (ShBody.enc body0 ++ []))⟩ := by
    rw [List.append_assoc]
    exact over_at2 (new := [.int .i64 n]) lg rfl
  rw [e2, fillA_step (off := 33) (size := 32) rfl (by simpa [Value.cells] using la) (by simp only [List.size_toArray, List.length_append, l0, lb0, lg, List.length_cons]; omega)]
  have e3 : overA ⟨(ShTag.enc game ++ [.int .i64 n]) ++ (ShTag.enc zero32 ++ (ShBody.enc body0 ++ []))⟩ 33 (Value.agg ⟨ShTag.enc ahead⟩).cells.toList = ⟨((ShTag.enc game ++ [.int .i64 n]) ++ ShTag.enc ahead) ++ (ShBody.enc body0 ++ [])⟩ := by
    rw [List.append_assoc (_ ++ _)]
    exact over_at2 (new := ShTag.enc ahead) (by rw [List.length_append, lg]; rfl) (by rw [l0, la])
  rw [e3, fillA_step (off := 65) (size := 70) rfl (by simpa [Value.cells] using lb) (by simp only [List.size_toArray, List.length_append, l0, lb0, lg, la, List.length_cons, List.length_nil]; omega)]
  have e4 : overA ⟨((ShTag.enc game ++ [.int .i64 n]) ++ ShTag.enc ahead) ++ (ShBody.enc body0 ++ [])⟩ 65 (Value.agg ⟨ShBody.enc b⟩).cells.toList = ⟨((ShTag.enc game ++ [.int .i64 n]) ++ ShTag.enc ahead) ++ (ShBody.enc b ++ [])⟩ :=
    over_at2 (new := ShBody.enc b) (by rw [List.length_append, List.length_append, lg, la]; rfl) (by rw [lb0, lb])
  rw [e4]
  show some _ = some _
  congr 2
  simp [Sh.enc]


theorem tagA_enc (t : List Int) : tagA t = ⟨ShTag.enc t⟩ := by rw [encTag]

end Go.Proofs.YtejjeggaofpbiaaGreat
