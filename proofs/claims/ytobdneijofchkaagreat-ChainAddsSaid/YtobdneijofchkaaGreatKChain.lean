/-
  Chains of entries. The six rounds of Why are printed by a program of mine (wip/tools/genwhy.py).
-/
import Derived.Test.YtobdneijofchkaaGreatKTags
import Derived.Test.YtobdneijofchkaaGreatKEntries
import Derived.Test.YtobdneijofchkaaGreatKMsg
import Derived.Test.YtobdneijofchkaaGreatKMsgPut
set_option linter.unusedSimpArgs false
set_option linter.unusedVariables false
namespace Go.Proofs.YtobdneijofchkaaGreat
open Go Go.Ev

/-! ### A maker's sums, real or of a table -/

def sumT (real : Bool) (asked : List ShThing.T) (bs : List Int) : List Int × List ShThing.T :=
  if real = true then (shaB bs, asked) else (numT (askT asked (thS bs)).1, (askT asked (thS bs)).2)
theorem sumT_length (real : Bool) (asked : List ShThing.T) (bs : List Int) : (sumT real asked bs).1.length = 32 := by
  unfold sumT; split
  · exact shaB_length _
  · exact numT_length _
theorem sumT_byte (real : Bool) (asked : List ShThing.T) (bs : List Int) : ∀ x ∈ (sumT real asked bs).1, isByte x := by
  unfold sumT; split
  · exact shaB_byte _
  · exact numT_byte _

theorem makSum_spec {g : GH} {c k p d : Nat} (hck : ¬ c = k) {real : Bool} {seed : List Int} {asked : List ShThing.T} (x : MakC g c k p real seed asked) (rows : Sl) (xss : List (List Int)) (hr : RowsC g d rows xss) (hby : ∀ xs ∈ xss, ∀ x ∈ xs, isByte x) (ht : total xss ≤ 80000000) (hl : xss.length ≤ 1000000000)
    {R : Value → Heap → Prop} (H : ∀ g' : GH, Mv [k] g g' → MakC g' c k p real seed (sumT real asked xss.flatten).2 → R (.agg (tagA (sumT real asked xss.flatten).1)) g'.h) :
    HC Tryz.prog F.tags_Maker_Sum #[.pointer (some ⟨p, 0, none⟩), .slice rows.a rows.n rows.c] R g.h := by
  cases real
  · exact sumTab_spec hck x rows xss hr ht hl H
  · exact sumReal_spec x rows xss hr hby ht (by omega) fun g' m => H g' (m.mono (by simp)) (x.mv m (by simp) (by simp))

/-! ### A smith -/

def rootT (real : Bool) (asked : List ShThing.T) (game : List Int) : List Int × List ShThing.T := sumT real asked (rootB ++ game)
def linkT (real : Bool) (asked : List ShThing.T) (e : EntryT) : List Int × List ShThing.T := sumT real asked (linkB ++ entryBytes e)

abbrev smithA (pm : Nat) (game : List Int) : Array Value := ⟨.pointer (some ⟨pm, 0, none⟩) :: ShTag.enc game⟩
theorem smithA_size {pm : Nat} {game : List Int} (h : ShTag.ok game) : (smithA pm game).size = 33 := by simp [lenTag h]

theorem root_spec {g : GH} {c k pm : Nat} (hck : ¬ c = k) {real : Bool} {seed : List Int} {asked : List ShThing.T} (x : MakC g c k pm real seed asked) (game : List Int) (hg : ShTag.ok game)
    {R : Value → Heap → Prop} (H : ∀ g' : GH, Mv [k] g g' → MakC g' c k pm real seed (rootT real asked game).2 → R (.agg (tagA (rootT real asked game).1)) g'.h) : HC Tryz.prog F.chain_smith_root #[.agg (smithA pm game)] R g.h := by
  refine chain_smith_root.calls ?_
  unfold chain_smith_root.body
  obtain ⟨y, hy, hyn⟩ := fresh_exists g [c, k]
  obtain ⟨w, hw, hwn⟩ := fresh_exists g [c, k, y]
  simp only [List.mem_cons, List.mem_nil_iff, or_false, not_or] at hyn hwn
  have m : Mv [k, y, w] g g := Mv.refl _ _
  refine new_C g y fun b q1 m1 b1 => ?_
  replace m := m.step m1 (by simp)
  replace x := x.mv m1 (by simp) (by simp)
  rw [zTag]
  refine new_C q1 w fun t q2 m2 b2 => ?_
  replace m := m.step m2 (by simp)
  replace x := x.mv m2 (by simp) (by simp)
  replace b1 := b1.mv m2 (by simp)
  rw [fldK_some, fldK_some]
  refine sliceArr_C 0 32 rfl rfl (by decide) ?_
  rw [loadK_C b1]
  refine ⟨some ⟨pm, 0, none⟩, rfl, ?_⟩
  have r1 : RdC 1 q2 y ⟨some ⟨b, 0 + 1 + 0 * sizeOfT Tryz.prog T.uint8, none⟩, 32 - 0, 32 - 0⟩ (game.map byV) := by
    rw [← encTag]
    refine ⟨⟨by simp [lenTag hg], .inr ⟨b, 1, _, _, _, by simp, b1.blk, fun i hi => ?_⟩⟩, .inr ⟨b, rfl, lt_of_get b1.blk, b1.col⟩⟩
    simp [Nat.add_comm 1]
  refine newSl_C q2 y rfl fun s3 q3 m3 o3 hn3 hc3 => ?_
  replace m := m.step m3 (by simp)
  replace x := x.mv m3 (by simp) (by simp)
  refine convRd (e := T.uint8) (by kernel_rfl) (by kernel_rfl) o3 (by simp) fun q4 m4 r4 k4 => ?_
  replace m := m.step m4 (by simp)
  replace x := x.mv m4 (by simp [Ne.symm hyn.1]) (by simp [Ne.symm hyn.2])
  have r2 := k4 _ _ _ (r1.mv m3 (by simp))
  refine newSl_C q4 y rfl fun s5 q5 m5 o5 hn5 hc5 => ?_
  replace m := m.step m5 (by simp)
  replace x := x.mv m5 (by simp) (by simp)
  have rr : RowsC q5 y s5 [rootB, game] := RowsC.two (a := s3) (b := ⟨some ⟨b, 0 + 1 + 0 * sizeOfT Tryz.prog T.uint8, none⟩, 32 - 0, 32 - 0⟩) o5.rd (r4.mv m5 (by simp)) (by omega) (r2.mv m5 (by simp)) (by simp)
  have hfl : [rootB, game].flatten = rootB ++ game := by simp
  refine makSum_spec hck x s5 _ rr (fun xs hx => by
    simp only [List.mem_cons, List.mem_nil_iff, or_false] at hx
    rcases hx with rfl | rfl
    · simp [rootB, isByte]
    · exact (okTagB hg).2) (by simp [total, rootB]; have := hg.1; omega) (by simp) fun q6 m6 x6 => ⟨_, rfl, ?_⟩
  rw [hfl] at x6 ⊢
  replace m := m.step m6 (by simp)
  have b6 := (((b2.mv m3 (by simp)).mv m4 (by simp [hwn.2.2])).mv m5 (by simp)).mv m6 (by simp [hwn.2.1])
  refine result_C (n := 32) szTag dTag b6 (by simp) (by simp [sumT_length]) (fun v hv => oneBy _ v hv) fun q7 m7 => ?_
  replace m := m.step m7 (by simp)
  have hre : ∀ j ∈ [k, y, w], j ∈ [k] ∨ Fresh g j := by
    intro j hj
    simp only [List.mem_cons, List.mem_nil_iff, or_false] at hj
    rcases hj with rfl | rfl | rfl
    · exact .inl (by simp)
    · exact .inr hy
    · exact .inr hw
  exact H (g.via q7 id) (m.re id hre) ((x6.mv m7 (by simp [Ne.symm hwn.1]) (by simp [Ne.symm hwn.2.1])).re (φ := id) m (.inl rfl) (.inl rfl))

theorem link_spec {g : GH} {c k pm : Nat} (hck : ¬ c = k) {real : Bool} {seed : List Int} {asked : List ShThing.T} (x : MakC g c k pm real seed asked) (game : List Int) (hg : ShTag.ok game) (e : EntryT) (ok : ShEntry.ok e)
    {R : Value → Heap → Prop} (H : ∀ g' : GH, Mv [k] g g' → MakC g' c k pm real seed (linkT real asked e).2 → R (.agg (tagA (linkT real asked e).1)) g'.h) : HC Tryz.prog F.chain_smith_link #[.agg (smithA pm game), .agg ⟨ShEntry.enc e⟩] R g.h := by
  refine chain_smith_link.calls ?_
  unfold chain_smith_link.body
  obtain ⟨y, hy, hyn⟩ := fresh_exists g [c, k]
  obtain ⟨w, hw, hwn⟩ := fresh_exists g [c, k, y]
  simp only [List.mem_cons, List.mem_nil_iff, or_false, not_or] at hyn hwn
  have m : Mv [k, y, w] g g := Mv.refl _ _
  refine new_C g w fun b q1 m1 b1 => ?_
  replace m := m.step m1 (by simp)
  replace x := x.mv m1 (by simp) (by simp)
  refine new_C q1 w fun be q1' m1' be1 => ?_
  replace m := m.step m1' (by simp)
  replace x := x.mv m1' (by simp) (by simp)
  replace b1 := b1.mv m1' (by simp)
  rw [zTag]
  refine new_C q1' w fun t q2 m2 b2 => ?_
  replace m := m.step m2 (by simp)
  replace x := x.mv m2 (by simp) (by simp)
  replace b1 := b1.mv m2 (by simp)
  replace be1 := be1.mv m2 (by simp)
  refine loadEntryAt (blkCells be1) ok ?_
  refine putEntry_any q2 y e ok fun s3 q3 m3 r3 hc3 => ⟨(_, _), rfl, ?_⟩
  replace m := m.step m3 (by simp)
  replace x := x.mv m3 (by simp) (by simp)
  replace b1 := b1.mv m3 (by simp)
  replace b2 := b2.mv m3 (by simp)
  dsimp only
  rw [fldK_some, loadK_C b1]
  refine ⟨some ⟨pm, 0, none⟩, rfl, ?_⟩
  refine newSl_C q3 y rfl fun s4 q4 m4 o4 hn4 hc4 => ?_
  replace m := m.step m4 (by simp)
  replace x := x.mv m4 (by simp) (by simp)
  refine convRd (e := T.uint8) (by kernel_rfl) (by kernel_rfl) o4 (by simp) fun q5 m5 r5 k5 => ?_
  replace m := m.step m5 (by simp)
  replace x := x.mv m5 (by simp [Ne.symm hyn.1]) (by simp [Ne.symm hyn.2])
  have r3' := k5 _ _ _ (r3.mv m4 (by simp))
  refine newSl_C q5 y rfl fun s6 q6 m6 o6 hn6 hc6 => ?_
  replace m := m.step m6 (by simp)
  replace x := x.mv m6 (by simp) (by simp)
  have hlen := entryBytes_len ok
  have rr : RowsC q6 y s6 [linkB, entryBytes e] := RowsC.two (a := s4) (b := s3) o6.rd (r5.mv m6 (by simp)) (by omega) (r3'.mv m6 (by simp)) hc3
  have hfl : [linkB, entryBytes e].flatten = linkB ++ entryBytes e := by simp
  refine makSum_spec hck x s6 _ rr (fun xs hx => by
    simp only [List.mem_cons, List.mem_nil_iff, or_false] at hx
    rcases hx with rfl | rfl
    · simp [linkB, isByte]
    · exact entryBytes_byte ok) (by simp [total, linkB]; omega) (by simp) fun q7 m7 x7 => ⟨_, rfl, ?_⟩
  rw [hfl] at x7 ⊢
  replace m := m.step m7 (by simp)
  have b7 := (((b2.mv m4 (by simp)).mv m5 (by simp [hwn.2.2])).mv m6 (by simp)).mv m7 (by simp [hwn.2.1])
  refine result_C (n := 32) szTag dTag b7 (by simp) (by simp [sumT_length]) (fun v hv => oneBy _ v hv) fun q8 m8 => ?_
  replace m := m.step m8 (by simp)
  have hre : ∀ j ∈ [k, y, w], j ∈ [k] ∨ Fresh g j := by
    intro j hj
    simp only [List.mem_cons, List.mem_nil_iff, or_false] at hj
    rcases hj with rfl | rfl | rfl
    · exact .inl (by simp)
    · exact .inr hy
    · exact .inr hw
  exact H (g.via q8 id) (m.re id hre) ((x7.mv m8 (by simp [Ne.symm hwn.1]) (by simp [Ne.symm hwn.2.1])).re (φ := id) m (.inl rfl) (.inl rfl))

/-! ### Chains in memory -/

abbrev chnA (pm : Nat) (game : List Int) (se sl : Sl) : Array Value := ⟨[.pointer (some ⟨pm, 0, none⟩)] ++ (ShTag.enc game ++ ([slV se] ++ ([slV sl] ++ [])))⟩
theorem chnA_size {pm : Nat} {game : List Int} (h : ShTag.ok game) (se sl : Sl) : (chnA pm game se sl).size = 35 := by simp [lenTag h]
theorem chn33 {pm : Nat} {game : List Int} (h : ShTag.ok game) (se sl : Sl) : (chnA pm game se sl)[33]? = some (slV se) := by
  simp only [List.getElem?_toArray]
  rw [List.getElem?_append_right (by simp), List.getElem?_append_right (by simp [lenTag h])]
  simp [lenTag h]
theorem chn34 {pm : Nat} {game : List Int} (h : ShTag.ok game) (se sl : Sl) : (chnA pm game se sl)[34]? = some (slV sl) := by
  simp only [List.getElem?_toArray]
  rw [List.getElem?_append_right (by simp), List.getElem?_append_right (by simp [lenTag h])]
  simp [lenTag h]
theorem chnSet33 {pm : Nat} {game : List Int} (h : ShTag.ok game) (se sl v : Sl) : (chnA pm game se sl).setIfInBounds 33 (slV v) = chnA pm game v sl := by
  rw [List.setIfInBounds_toArray, List.set_append_right _ _ (by simp), List.set_append_right _ _ (by simp [lenTag h])]
  simp [lenTag h]
theorem chnSet34 {pm : Nat} {game : List Int} (h : ShTag.ok game) (se sl v : Sl) : (chnA pm game se sl).setIfInBounds 34 (slV v) = chnA pm game se v := by
  rw [List.setIfInBounds_toArray, List.set_append_right _ _ (by simp), List.set_append_right _ _ (by simp [lenTag h])]
  simp [lenTag h]

theorem szSmith : sizeOfT Tryz.prog T.chain_smith = 33 := by kernel_rfl
theorem build_smith (pm : Nat) (game : List Int) (h : ShTag.ok game) (w : World) : (Instr.build T.chain_smith #[(0, .pointer (some ⟨pm, 0, none⟩)), (1, .agg ⟨ShTag.enc game⟩)]).run Tryz.prog w = .ok (.agg (smithA pm game)) w := by
  refine build_struct (fs := structFs Tryz.prog T.chain_smith) (places := #[(0, 1), (1, 32)]) (by kernel_rfl) (z := ⟨[.pointer none] ++ (List.replicate 32 (.int .u8 0) ++ [])⟩) (fun w => by kernel_rfl) (fun w => by kernel_rfl) ?_ w
  rw [fillA_step (off := 0) (size := 1) rfl rfl (by simp)]
  have e1 := over_part [] [.pointer none] (List.replicate 32 (Value.int .u8 0) ++ []) [.pointer (some ⟨pm, 0, none⟩)] rfl
  have e1' : overA ⟨[.pointer none] ++ (List.replicate 32 (Value.int .u8 0) ++ [])⟩ 0 (Value.pointer (some ⟨pm, 0, none⟩)).cells.toList = ⟨[.pointer (some ⟨pm, 0, none⟩)] ++ (List.replicate 32 (Value.int .u8 0) ++ [])⟩ := e1
  rw [e1']
  rw [fillA_step (off := 1) (size := 32) rfl (by simpa [Value.cells] using lenTag h) (by simp)]
  have e2 := over_part [.pointer (some ⟨pm, 0, none⟩)] (List.replicate 32 (Value.int .u8 0)) [] (ShTag.enc game) (by simp [lenTag h])
  have e2' : overA ⟨[.pointer (some ⟨pm, 0, none⟩)] ++ (List.replicate 32 (Value.int .u8 0) ++ [])⟩ 1 (Value.agg ⟨ShTag.enc game⟩).cells.toList = ⟨[.pointer (some ⟨pm, 0, none⟩)] ++ (ShTag.enc game ++ [])⟩ := e2
  rw [e2']
  simp [fillA]
theorem build_chain1 (pm : Nat) (game : List Int) (h : ShTag.ok game) (w : World) : (Instr.build T.chain_Chain #[(0, .agg (smithA pm game))]).run Tryz.prog w = .ok (.agg (chnA pm game ⟨none, 0, 0⟩ ⟨none, 0, 0⟩)) w := by
  refine build_struct (fs := structFs Tryz.prog T.chain_Chain) (places := #[(0, 33), (33, 1), (34, 1)]) (by kernel_rfl) (z := ⟨[] ++ ((.pointer none :: List.replicate 32 (.int .u8 0)) ++ [slV ⟨none, 0, 0⟩, slV ⟨none, 0, 0⟩])⟩) (fun w => by kernel_rfl) (fun w => by kernel_rfl) ?_ w
  rw [fillA_step (off := 0) (size := 33) rfl (by simpa [Value.cells] using lenTag h) (by simp)]
  have e1 := over_part [] (.pointer none :: List.replicate 32 (Value.int .u8 0)) [slV ⟨none, 0, 0⟩, slV ⟨none, 0, 0⟩] (.pointer (some ⟨pm, 0, none⟩) :: ShTag.enc game) (by simp [lenTag h])
  have e1' : overA ⟨[] ++ ((.pointer none :: List.replicate 32 (Value.int .u8 0)) ++ [slV ⟨none, 0, 0⟩, slV ⟨none, 0, 0⟩])⟩ 0 (Value.agg (smithA pm game)).cells.toList = _ := e1
  rw [e1']
  simp [fillA]
theorem build_chain3 (pm : Nat) (game : List Int) (h : ShTag.ok game) (se sl : Sl) (w : World) : (Instr.build T.chain_Chain #[(0, .agg (smithA pm game)), (1, slV se), (2, slV sl)]).run Tryz.prog w = .ok (.agg (chnA pm game se sl)) w := by
  refine build_struct (fs := structFs Tryz.prog T.chain_Chain) (places := #[(0, 33), (33, 1), (34, 1)]) (by kernel_rfl) (z := ⟨[] ++ ((.pointer none :: List.replicate 32 (.int .u8 0)) ++ [slV ⟨none, 0, 0⟩, slV ⟨none, 0, 0⟩])⟩) (fun w => by kernel_rfl) (fun w => by kernel_rfl) ?_ w
  rw [fillA_step (off := 0) (size := 33) rfl (by simpa [Value.cells] using lenTag h) (by simp)]
  have e1 := over_part [] (.pointer none :: List.replicate 32 (Value.int .u8 0)) [slV ⟨none, 0, 0⟩, slV ⟨none, 0, 0⟩] (.pointer (some ⟨pm, 0, none⟩) :: ShTag.enc game) (by simp [lenTag h])
  have e1' : overA ⟨[] ++ ((.pointer none :: List.replicate 32 (Value.int .u8 0)) ++ [slV ⟨none, 0, 0⟩, slV ⟨none, 0, 0⟩])⟩ 0 (Value.agg (smithA pm game)).cells.toList = chnA pm game ⟨none, 0, 0⟩ ⟨none, 0, 0⟩ := e1
  rw [e1', fillA_step (off := 33) (size := 1) rfl rfl (by rw [chnA_size h]; omega)]
  have e2 : overA (chnA pm game ⟨none, 0, 0⟩ ⟨none, 0, 0⟩) 33 [slV se] = chnA pm game se ⟨none, 0, 0⟩ := by
    rw [overA_one (by rw [chnA_size h]; omega), chnSet33 h]
  have e2' : overA (chnA pm game ⟨none, 0, 0⟩ ⟨none, 0, 0⟩) 33 (slV se).cells.toList = chnA pm game se ⟨none, 0, 0⟩ := e2
  rw [e2', fillA_step (off := 34) (size := 1) rfl rfl (by rw [chnA_size h]; omega)]
  have e3 : overA (chnA pm game se ⟨none, 0, 0⟩) 34 [slV sl] = chnA pm game se sl := by
    rw [overA_one (by rw [chnA_size h]; omega), chnSet34 h]
  have e3' : overA (chnA pm game se ⟨none, 0, 0⟩) 34 (slV sl).cells.toList = chnA pm game se sl := e3
  rw [e3']
  rfl

/-- A chain: its maker's place, its game, its entries, their tags. -/
def ChnC (g : GH) (kc ke kl p pm : Nat) (game : List Int) (es : List EntryT) (ls : List (List Int)) : Prop :=
  ∃ se sl : Sl, BlkC g kc p (chnA pm game se sl) T.chain_Chain ∧ OwnF T.api_Entry ShEntry g ke se es ∧ OwnF T.api_Tag ShTag g kl sl ls ∧ ls.length = es.length ∧ ShTag.ok game
theorem ChnC.mv {K : List Nat} {g g' : GH} {kc ke kl p pm : Nat} {game : List Int} {es : List EntryT} {ls : List (List Int)} (x : ChnC g kc ke kl p pm game es ls) (m : Mv K g g') (h1 : kc ∉ K) (h2 : ke ∉ K) (h3 : kl ∉ K) : ChnC g' kc ke kl p pm game es ls := by
  obtain ⟨se, sl, b, oe, ol, h⟩ := x
  exact ⟨se, sl, b.mv m h1, oe.mv m h2, ol.mv m h3, h⟩
theorem ChnC.base {g : GH} {kc ke kl p pm : Nat} {game : List Int} {es : List EntryT} {ls : List (List Int)} (x : ChnC g kc ke kl p pm game es ls) : ChnC g.base 0 0 0 p pm game es ls := by
  obtain ⟨se, sl, b, oe, ol, h⟩ := x
  exact ⟨se, sl, b.base, oe.base, ol.base, h⟩
theorem ChnC.re {K : List Nat} {g q : GH} {kc ke kl p pm : Nat} {game : List Int} {es : List EntryT} {ls : List (List Int)} (x : ChnC q kc ke kl p pm game es ls) (m : Mv K g q) {φ : Nat → Nat} (h1 : φ kc = kc ∨ Fresh g kc) (h2 : φ ke = ke ∨ Fresh g ke) (h3 : φ kl = kl ∨ Fresh g kl) :
    ChnC (g.via q φ) (φ kc) (φ ke) (φ kl) p pm game es ls := by
  obtain ⟨se, sl, b, oe, ol, h⟩ := x
  exact ⟨se, sl, b.re m h1, oe.re m h2, ol.re m h3, h⟩

theorem made_spec {g : GH} {kc ke kl p pm : Nat} {game : List Int} {es : List EntryT} {ls : List (List Int)} (x : ChnC g kc ke kl p pm game es ls) {R : Value → Heap → Prop} (H : R (.bool true) g.h) : HC Tryz.prog F.chain_Chain_made #[.pointer (some ⟨p, 0, none⟩)] R g.h := by
  obtain ⟨se, sl, b, oe, ol, h⟩ := x
  refine chain_Chain_made.calls ?_
  unfold chain_Chain_made.body
  rw [if_pos (by rfl), derefK_some, fldK_some, fldK_some, loadK_C b]
  exact ⟨some ⟨pm, 0, none⟩, rfl, H⟩

theorem chnLen_spec {g : GH} {kc ke kl p pm : Nat} {game : List Int} {es : List EntryT} {ls : List (List Int)} (x : ChnC g kc ke kl p pm game es ls) {R : Value → Heap → Prop} (H : R (.int .i64 es.length) g.h) : HC Tryz.prog F.chain_Chain_Len #[.pointer (some ⟨p, 0, none⟩)] R g.h := by
  refine chain_Chain_Len.calls ?_
  unfold chain_Chain_Len.body
  refine made_spec x ⟨_, rfl, ?_⟩
  obtain ⟨se, sl, b, oe, ol, h, hg⟩ := x
  rw [if_neg (by simp), derefK_some, fldK_some, loadK_C b]
  refine ⟨se, by rw [Nat.zero_add]; exact chn33 hg se sl, ?_⟩
  rw [oe.len]
  exact H


/-- An entry, a tag, if there is one. -/
def atT (es : List EntryT) (n : Int) : EntryT × Bool := if 0 ≤ n ∧ n < (es.length : Int) then (es.getD n.toNat entry0, true) else (entry0, false)
def tagAt (ls : List (List Int)) (n : Int) : List Int × Bool := if 0 ≤ n ∧ n < (ls.length : Int) then (ls.getD n.toNat zero32, true) else (zero32, false)
theorem atT_ok {es : List EntryT} (h : ∀ e ∈ es, ShEntry.ok e) (n : Int) : ShEntry.ok (atT es n).1 := by
  unfold atT
  split
  · rename_i hn
    have hlt : n.toNat < es.length := by omega
    simp only [List.getD_eq_getElem?_getD, List.getElem?_eq_getElem hlt, Option.getD_some]
    exact h _ (List.getElem_mem hlt)
  · exact okEntry0

theorem resultE {g : GH} {c p : Nat} {cells : Array Value} {e : TypeId} (hb : BlkC g c p cells e) (hn : cells.size = 135) {x : EntryT} (ok : ShEntry.ok x) {K : Array Value → Heap → Prop} (H : ∀ g' : GH, Mv [c] g g' → K ⟨ShEntry.enc x⟩ g'.h) :
    storeAggK (sizeOfT Tryz.prog T.api_Entry) g.h (some ⟨p, 0, none⟩) ⟨ShEntry.enc x⟩ (fun h => quietK Tryz.prog .agg (Instr.loadAt T.api_Entry (.pointer (some ⟨p, 0, none⟩))) (fun r => K r h) h) :=
  result_C (n := 135) szEntry dEntry hb hn (show (ShEntry.enc x).length = 135 from lenEntry ok) (fun v hv => Sh.enc_one (s := ShEntry) rfl v hv) H
theorem resultT {g : GH} {c p : Nat} {cells : Array Value} {e : TypeId} (hb : BlkC g c p cells e) (hn : cells.size = 32) {x : List Int} (ok : ShTag.ok x) {K : Array Value → Heap → Prop} (H : ∀ g' : GH, Mv [c] g g' → K ⟨ShTag.enc x⟩ g'.h) :
    storeAggK (sizeOfT Tryz.prog T.api_Tag) g.h (some ⟨p, 0, none⟩) ⟨ShTag.enc x⟩ (fun h => quietK Tryz.prog .agg (Instr.loadAt T.api_Tag (.pointer (some ⟨p, 0, none⟩))) (fun r => K r h) h) :=
  result_C (n := 32) szTag dTag hb hn (show (ShTag.enc x).length = 32 from lenTag ok) (fun v hv => Sh.enc_one (s := ShTag) rfl v hv) H
theorem zTagE : zerosOf Tryz.prog T.api_Tag = ⟨ShTag.enc zero32⟩ := by kernel_rfl

theorem chnAt_spec {g : GH} {kc ke kl p pm : Nat} {game : List Int} {es : List EntryT} {ls : List (List Int)} (x : ChnC g kc ke kl p pm game es ls) (hl : es.length ≤ 1000000) (n : Int) {R : Value → Heap → Prop}
    (H : ∀ g' : GH, Mv [] g g' → R (.tuple #[.agg ⟨ShEntry.enc (atT es n).1⟩, .bool (atT es n).2]) g'.h) : HC Tryz.prog F.chain_Chain_At #[.pointer (some ⟨p, 0, none⟩), .int .i64 n] R g.h := by
  refine chain_Chain_At.calls ?_
  unfold chain_Chain_At.body
  rw [zEntry]
  have m := Mv.refl [1] g.base
  have x0 := x.base
  refine new_C g.base 1 fun b q1 m1 b1 => ?_
  replace m := m.step m1 (by simp)
  replace x0 := x0.mv m1 (by simp) (by simp) (by simp)
  have fin : ∀ (y : EntryT) (t : Bool), atT es n = (y, t) → ∀ q : GH, Mv [1] q1 q → R (.tuple #[.agg ⟨ShEntry.enc y⟩, .bool t]) q.h := by
    intro y t e q mq
    have := H (g.via q fun _ => 0) ((m.step mq (by simp)).via (by simp) _)
    rw [e] at this
    exact this
  by_cases h0 : n < 0
  · rw [if_pos (by simpa using h0)]
    refine loadEntryAt (blkCells b1) okEntry0 ?_
    refine resultE b1 (by rw [List.size_toArray, lenEntry okEntry0]) okEntry0 fun q2 m2 => ?_
    exact fin _ _ (by unfold atT; rw [if_neg (by omega)]) q2 m2
  · rw [if_neg (by simpa using h0)]
    refine chnLen_spec x0 ⟨_, rfl, ?_⟩
    dsimp only
    by_cases h1 : n ≥ (es.length : Int)
    · rw [if_pos (by simpa using h1)]
      refine loadEntryAt (blkCells b1) okEntry0 ?_
      refine resultE b1 (by rw [List.size_toArray, lenEntry okEntry0]) okEntry0 fun q2 m2 => ?_
      exact fin _ _ (by unfold atT; rw [if_neg (by omega)]) q2 m2
    · rw [if_neg (by simpa using h1)]
      obtain ⟨se, sl, bc, oe, ol, hll, hg⟩ := x0
      rw [derefK_some, fldK_some, loadK_C bc]
      refine ⟨se, by rw [Nat.zero_add]; exact chn33 hg se sl, ?_⟩
      obtain ⟨i, rfl⟩ : ∃ i : Nat, n = (i : Int) := ⟨n.toNat, by omega⟩
      have hi : i < es.length := by omega
      refine (oe.slc rfl (by omega)).idxF rfl szEntry (by decide) hi fun b2 o2 c2 ok2 l2 => loadF c2 szEntry (by decide) l2 ?_
      refine resultE b1 (by rw [List.size_toArray, lenEntry okEntry0]) ok2 fun q2 m2 => ?_
      exact fin _ _ (by unfold atT; rw [if_pos (by omega)]; simp [List.getD_eq_getElem?_getD, List.getElem?_eq_getElem hi]) q2 m2

theorem chnTag_spec {g : GH} {kc ke kl p pm : Nat} {game : List Int} {es : List EntryT} {ls : List (List Int)} (x : ChnC g kc ke kl p pm game es ls) (hl : es.length ≤ 1000000) (n : Int) {R : Value → Heap → Prop}
    (H : ∀ g' : GH, Mv [] g g' → R (.tuple #[.agg ⟨ShTag.enc (tagAt ls n).1⟩, .bool (tagAt ls n).2]) g'.h) : HC Tryz.prog F.chain_Chain_Tag #[.pointer (some ⟨p, 0, none⟩), .int .i64 n] R g.h := by
  refine chain_Chain_Tag.calls ?_
  unfold chain_Chain_Tag.body
  rw [zTagE]
  have m := Mv.refl [1] g.base
  have x0 := x.base
  refine new_C g.base 1 fun b q1 m1 b1 => ?_
  replace m := m.step m1 (by simp)
  replace x0 := x0.mv m1 (by simp) (by simp) (by simp)
  have fin : ∀ (y : List Int) (t : Bool), tagAt ls n = (y, t) → ∀ q : GH, Mv [1] q1 q → R (.tuple #[.agg ⟨ShTag.enc y⟩, .bool t]) q.h := by
    intro y t e q mq
    have := H (g.via q fun _ => 0) ((m.step mq (by simp)).via (by simp) _)
    rw [e] at this
    exact this
  have hll : ls.length = es.length := by obtain ⟨se, sl, bc, oe, ol, hll, hg⟩ := x; exact hll
  by_cases h0 : n < 0
  · rw [if_pos (by simpa using h0)]
    refine loadTagAt (blkCells b1) ok0 ?_
    refine resultT b1 (by rw [List.size_toArray, lenTag ok0]) ok0 fun q2 m2 => ?_
    exact fin _ _ (by unfold tagAt; rw [if_neg (by omega)]) q2 m2
  · rw [if_neg (by simpa using h0)]
    refine chnLen_spec x0 ⟨_, rfl, ?_⟩
    dsimp only
    by_cases h1 : n ≥ (es.length : Int)
    · rw [if_pos (by simpa using h1)]
      refine loadTagAt (blkCells b1) ok0 ?_
      refine resultT b1 (by rw [List.size_toArray, lenTag ok0]) ok0 fun q2 m2 => ?_
      exact fin _ _ (by unfold tagAt; rw [if_neg (by omega)]) q2 m2
    · rw [if_neg (by simpa using h1)]
      obtain ⟨se, sl, bc, oe, ol, hll, hg⟩ := x0
      rw [derefK_some, fldK_some, loadK_C bc]
      refine ⟨sl, by rw [Nat.zero_add]; exact chn34 hg se sl, ?_⟩
      obtain ⟨i, rfl⟩ : ∃ i : Nat, n = (i : Int) := ⟨n.toNat, by omega⟩
      have hi : i < ls.length := by omega
      refine (ol.slc rfl (by omega)).idxF rfl szTag (by decide) hi fun b2 o2 c2 ok2 l2 => loadF c2 szTag (by decide) l2 ?_
      refine resultT b1 (by rw [List.size_toArray, lenTag ok0]) ok2 fun q2 m2 => ?_
      exact fin _ _ (by unfold tagAt; rw [if_pos (by omega)]; simp [List.getD_eq_getElem?_getD, List.getElem?_eq_getElem hi]) q2 m2

/-- The tag that the next entry has ahead. -/
def headT (real : Bool) (asked : List ShThing.T) (game : List Int) (ls : List (List Int)) : List Int × List ShThing.T :=
  if ls.length = 0 then rootT real asked game else (ls.getD (ls.length - 1) zero32, asked)
theorem headT_ok {ls : List (List Int)} (h : ∀ t ∈ ls, ShTag.ok t) (real : Bool) (asked : List ShThing.T) (game : List Int) : ShTag.ok (headT real asked game ls).1 := by
  unfold headT
  split
  · exact okTag (sumT_length _ _ _) (sumT_byte _ _ _)
  · have hlt : ls.length - 1 < ls.length := by omega
    simp only [List.getD_eq_getElem?_getD, List.getElem?_eq_getElem hlt, Option.getD_some]
    exact h _ (List.getElem_mem hlt)

structure Dis (c k kc ke kl : Nat) : Prop where
  ck : ¬ c = k
  ckc : ¬ c = kc
  cke : ¬ c = ke
  ckl : ¬ c = kl
  kkc : ¬ k = kc
  kke : ¬ k = ke
  kkl : ¬ k = kl
  kcke : ¬ kc = ke
  kckl : ¬ kc = kl
  kekl : ¬ ke = kl

theorem head_spec {g : GH} {c k kc ke kl p pm : Nat} (D : Dis c k kc ke kl) {real : Bool} {seed : List Int} {asked : List ShThing.T} (mk : MakC g c k pm real seed asked) {game : List Int} {es : List EntryT} {ls : List (List Int)} (x : ChnC g kc ke kl p pm game es ls) (hl : es.length ≤ 1000000) {R : Value → Heap → Prop}
    (H : ∀ g' : GH, Mv [k] g g' → MakC g' c k pm real seed (headT real asked game ls).2 → R (.agg ⟨ShTag.enc (headT real asked game ls).1⟩) g'.h) : HC Tryz.prog F.chain_Chain_Head #[.pointer (some ⟨p, 0, none⟩)] R g.h := by
  refine chain_Chain_Head.calls ?_
  unfold chain_Chain_Head.body
  rw [zTagE]
  obtain ⟨y, hy, hyn⟩ := fresh_exists g [c, k, kc, ke, kl]
  simp only [List.mem_cons, List.mem_nil_iff, or_false, not_or] at hyn
  have m : Mv [k, y] g g := Mv.refl _ _
  refine new_C g y fun b q1 m1 b1 => ?_
  replace m := m.step m1 (by simp)
  replace x := x.mv m1 (by simp) (by simp) (by simp)
  replace mk := mk.mv m1 (by simp) (by simp)
  refine chnLen_spec x ⟨_, rfl, ?_⟩
  dsimp only
  refine made_spec x ⟨_, rfl, ?_⟩
  dsimp only
  rw [if_neg (by simp)]
  have hre : ∀ j ∈ [k, y], j ∈ [k] ∨ Fresh g j := by
    intro j hj
    simp only [List.mem_cons, List.mem_nil_iff, or_false] at hj
    rcases hj with rfl | rfl
    · exact .inl (by simp)
    · exact .inr hy
  have fin : ∀ (t : List Int) (a : List ShThing.T), headT real asked game ls = (t, a) → ∀ q : GH, Mv [k, y] g q → MakC q c k pm real seed a → R (.agg ⟨ShTag.enc t⟩) q.h := by
    intro t a e q mq mkq
    have := H (g.via q id) (mq.re id hre) (by rw [e]; exact mkq.re (φ := id) mq (.inl rfl) (.inl rfl))
    rw [e] at this
    exact this
  obtain ⟨se, sl, bc, oe, ol, hll, hg⟩ := x
  by_cases h0 : (es.length : Int) > 0
  · rw [if_pos (by simpa using h0), derefK_some, fldK_some, loadK_C bc]
    refine ⟨sl, by rw [Nat.zero_add]; exact chn34 hg se sl, ?_⟩
    have hi : es.length - 1 < ls.length := by omega
    have e1 : IntKind.i64.wrap ((es.length : Int) - 1) = ((es.length - 1 : Nat) : Int) := by rw [wrapI64 (by omega) (by omega)]; omega
    rw [e1]
    refine (ol.slc rfl (by omega)).idxF rfl szTag (by decide) hi fun b2 o2 c2 ok2 l2 => loadF c2 szTag (by decide) l2 ?_
    refine resultT b1 (by rw [List.size_toArray, lenTag ok0]) ok2 fun q2 m2 => ?_
    refine fin _ _ ?_ q2 (m.step m2 (by simp)) (mk.mv m2 (by simp [Ne.symm hyn.1]) (by simp [Ne.symm hyn.2.1]))
    unfold headT
    rw [if_neg (by omega), hll]
    simp [List.getD_eq_getElem?_getD, List.getElem?_eq_getElem hi]
  · rw [if_neg (by simpa using h0), derefK_some, fldK_some]
    rw [loadAggK_C bc]
    refine ⟨by rw [szSmith, chnA_size hg]; omega, ?_⟩
    have e1 : (chnA pm game se sl).extract (0 + 0) (0 + 0 + sizeOfT Tryz.prog T.chain_smith) = smithA pm game := by
      rw [szSmith]
      apply Array.toList_inj.1
      rw [Array.toList_extract]
      simp only [List.extract_eq_take_drop]
      show (([Value.pointer (some ⟨pm, 0, none⟩)] ++ (ShTag.enc game ++ ([slV se] ++ ([slV sl] ++ [])))).drop 0).take 33 = _
      rw [List.drop_zero, ← List.append_assoc, List.take_left' (by simp [lenTag hg])]
      rfl
    rw [e1]
    refine root_spec D.ck mk game hg fun q2 m2 mk2 => ⟨_, rfl, ?_⟩
    dsimp only
    rw [tagA_enc]
    refine resultT (b1.mv m2 (by simp [hyn.2.1])) (by rw [List.size_toArray, lenTag ok0]) (okTag (sumT_length _ _ _) (sumT_byte _ _ _)) fun q3 m3 => ?_
    refine fin _ _ ?_ q3 ((m.step m2 (by simp)).step m3 (by simp)) (mk2.mv m3 (by simp [Ne.symm hyn.1]) (by simp [Ne.symm hyn.2.1]))
    unfold headT
    rw [if_pos (by omega)]
    rfl


def whyT (real : Bool) (asked : List ShThing.T) (game : List Int) (es : List EntryT) (ls : List (List Int)) (e : EntryT) : Int × List ShThing.T :=
  if entryOk e = false then (2, asked)
  else if ¬ e.game = game then (14, asked)
  else if (atT es e.number).2 = true ∧ (atT es e.number).1 = e then (12, asked)
  else if (atT es e.number).2 = true then (15, asked)
  else if e.number > (es.length : Int) then (11, asked)
  else if ¬ e.ahead = (headT real asked game ls).1 then (7, (headT real asked game ls).2)
  else (0, (headT real asked game ls).2)

theorem zRule : zerosOf Tryz.prog T.chain_rule = #[.int .i64 0, .nilFunc] := by kernel_rfl
theorem szRule : sizeOfT Tryz.prog T.chain_rule = 2 := by kernel_rfl
theorem zBool : zerosOf Tryz.prog T.bool = #[.bool false] := by kernel_rfl

theorem why1_spec {g : GH} {y pe : Nat} {e : EntryT} (be : BlkC g y pe ⟨ShEntry.enc e⟩ T.api_Entry) (oke : ShEntry.ok e) {R : Value → Heap → Prop} (H : ∀ g' : GH, Mv [] g g' → R (.bool (!entryOk e)) g'.h) : HC Tryz.prog F.chain_Chain_Why_1 #[.pointer (some ⟨pe, 0, none⟩)] R g.h := by
  refine chain_Chain_Why_1.calls ?_
  unfold chain_Chain_Why_1.body
  refine loadEntryAt (blkCells be) oke ?_
  exact msgEntry_spec g e oke fun g' m => ⟨_, rfl, H g' m⟩
theorem chnGame {g : GH} {kc p pm : Nat} {game : List Int} {se sl : Sl} (b : BlkC g kc p (chnA pm game se sl) T.chain_Chain) : CellsC g kc p 1 (ShTag.enc game) := cellsTo (cellsFst (cellsSnd (n := 1) (blkCells b) rfl)) (by omega)
theorem neTag_F {x y : List Int} {ox oy : Operand} (hx : ShTag.ok x) (hy : ShTag.ok y) {K : Bool → Prop} (H : K (decide (¬ x = y))) : eqK Tryz.prog (binSem .neq T.api_Tag ox oy (.agg ⟨ShTag.enc x⟩) (.agg ⟨ShTag.enc y⟩)) K := by
  refine neqF_Tag hx hy fun r hr => ?_
  have : r = decide (¬ x = y) := by
    cases r
    · have : ¬ (¬ x = y) := fun h => by simpa using hr.2 h
      simp [this]
    · have := hr.1 rfl
      simp [this]
  rw [this]
  exact H
theorem why2_spec {g : GH} {y kc ke kl p pe pc pm : Nat} {e : EntryT} (be : BlkC g y pe ⟨ShEntry.enc e⟩ T.api_Entry) (oke : ShEntry.ok e) (bc : BlkC g y pc #[.pointer (some ⟨p, 0, none⟩)] T.p_chain_Chain) {game : List Int} {es : List EntryT} {ls : List (List Int)} (x : ChnC g kc ke kl p pm game es ls)
    {R : Value → Heap → Prop} (H : R (.bool (decide (¬ e.game = game))) g.h) : HC Tryz.prog F.chain_Chain_Why_2 #[.pointer (some ⟨pe, 0, none⟩), .pointer (some ⟨pc, 0, none⟩)] R g.h := by
  refine chain_Chain_Why_2.calls ?_
  unfold chain_Chain_Why_2.body
  obtain ⟨se, sl, b, oe, ol, hll, hg⟩ := x
  rw [fldK_some]
  refine loadTagAt (entryAt oke (blkCells be)).game oke.1 ?_
  rw [loadK_C bc]
  refine ⟨some ⟨p, 0, none⟩, rfl, ?_⟩
  rw [derefK_some, fldK_some, fldK_some]
  refine loadTagAt (chnGame b) hg ?_
  exact neTag_F oke.1 hg H
theorem why3_spec {g : GH} {y y2 y3 pe po pt : Nat} {e old : EntryT} {t : Bool} (bt : BlkC g y3 pt #[.bool t] T.bool) (bo : BlkC g y2 po ⟨ShEntry.enc old⟩ T.api_Entry) (be : BlkC g y pe ⟨ShEntry.enc e⟩ T.api_Entry) (oka : ShEntry.ok old) (oke : ShEntry.ok e)
    {R : Value → Heap → Prop} (H : R (.bool (t && decide (old = e))) g.h) : HC Tryz.prog F.chain_Chain_Why_3 #[.pointer (some ⟨pt, 0, none⟩), .pointer (some ⟨po, 0, none⟩), .pointer (some ⟨pe, 0, none⟩)] R g.h := by
  refine chain_Chain_Why_3.calls ?_
  unfold chain_Chain_Why_3.body
  rw [loadK_C bt]
  refine ⟨t, rfl, ?_⟩
  cases t
  · rw [if_neg (by simp)]
    exact H
  · rw [if_pos rfl]
    refine loadEntryAt (blkCells bo) oka ?_
    refine loadEntryAt (blkCells be) oke ?_
    exact eqEntry_F oka oke H
theorem why4_spec {g : GH} {y3 pt : Nat} {t : Bool} (bt : BlkC g y3 pt #[.bool t] T.bool) {R : Value → Heap → Prop} (H : R (.bool t) g.h) : HC Tryz.prog F.chain_Chain_Why_4 #[.pointer (some ⟨pt, 0, none⟩)] R g.h := by
  refine chain_Chain_Why_4.calls ?_
  unfold chain_Chain_Why_4.body
  rw [loadK_C bt]
  exact ⟨t, rfl, H⟩
theorem why5_spec {g : GH} {y kc ke kl p pe pc pm : Nat} {e : EntryT} (be : BlkC g y pe ⟨ShEntry.enc e⟩ T.api_Entry) (oke : ShEntry.ok e) (bc : BlkC g y pc #[.pointer (some ⟨p, 0, none⟩)] T.p_chain_Chain) {game : List Int} {es : List EntryT} {ls : List (List Int)} (x : ChnC g kc ke kl p pm game es ls)
    {R : Value → Heap → Prop} (H : R (.bool (decide (e.number > (es.length : Int)))) g.h) : HC Tryz.prog F.chain_Chain_Why_5 #[.pointer (some ⟨pe, 0, none⟩), .pointer (some ⟨pc, 0, none⟩)] R g.h := by
  refine chain_Chain_Why_5.calls ?_
  unfold chain_Chain_Why_5.body
  rw [fldK_some]
  refine loadK_cells (entryAt oke (blkCells be)).number (k := .int .i64) (j := 0) e.number rfl rfl ?_
  rw [loadK_C bc]
  refine ⟨some ⟨p, 0, none⟩, rfl, ?_⟩
  exact ⟨_, chnLen_spec x ⟨rfl, rfl⟩, H⟩
theorem why6_spec {g : GH} {c k kc ke kl y p pe pc pm : Nat} (D : Dis c k kc ke kl) {real : Bool} {seed : List Int} {asked : List ShThing.T} (mk : MakC g c k pm real seed asked) {e : EntryT} (be : BlkC g y pe ⟨ShEntry.enc e⟩ T.api_Entry) (hyk : ¬ y = k) (oke : ShEntry.ok e) (bc : BlkC g y pc #[.pointer (some ⟨p, 0, none⟩)] T.p_chain_Chain) {game : List Int} {es : List EntryT} {ls : List (List Int)} (x : ChnC g kc ke kl p pm game es ls) (hl : es.length ≤ 1000000)
    {R : Value → Heap → Prop} (H : ∀ g' : GH, Mv [k] g g' → MakC g' c k pm real seed (headT real asked game ls).2 → R (.bool (decide (¬ e.ahead = (headT real asked game ls).1))) g'.h) : HC Tryz.prog F.chain_Chain_Why_6 #[.pointer (some ⟨pe, 0, none⟩), .pointer (some ⟨pc, 0, none⟩)] R g.h := by
  refine chain_Chain_Why_6.calls ?_
  unfold chain_Chain_Why_6.body
  rw [fldK_some]
  refine loadTagAt (entryAt oke (blkCells be)).ahead oke.2.2.1 ?_
  rw [loadK_C bc]
  refine ⟨some ⟨p, 0, none⟩, rfl, ?_⟩
  refine head_spec D mk x hl fun g1 m1 mk1 => ⟨_, rfl, ?_⟩
  have be1 := be.mv m1 (by simp [hyk])
  refine ⟨stillF (s := ShTag) (entryAt oke (blkCells be1)).ahead szTag (by decide) (lenTag oke.2.2.1), ?_⟩
  have hok : ShTag.ok (headT real asked game ls).1 := by
    obtain ⟨se, sl, b, oe, ol, hll, hg⟩ := x
    exact headT_ok ol.ok _ _ _
  exact neTag_F oke.2.2.1 hok (H g1 m1 mk1)

set_option maxHeartbeats 2000000 in
set_option maxRecDepth 20000 in
theorem why_spec {g : GH} {c k kc ke kl p pm : Nat} (D : Dis c k kc ke kl) {real : Bool} {seed : List Int} {asked : List ShThing.T} (mk : MakC g c k pm real seed asked) {game : List Int} {es : List EntryT} {ls : List (List Int)} (x : ChnC g kc ke kl p pm game es ls) (hl : es.length ≤ 1000000) (e : EntryT) (oke : ShEntry.ok e) {R : Value → Heap → Prop}
    (H : ∀ g' : GH, Mv [k] g g' → MakC g' c k pm real seed (whyT real asked game es ls e).2 → R (.int .i64 (whyT real asked game es ls e).1) g'.h) : HC Tryz.prog F.chain_Chain_Why #[.pointer (some ⟨p, 0, none⟩), .agg ⟨ShEntry.enc e⟩] R g.h := by
  refine chain_Chain_Why.calls ?_
  unfold chain_Chain_Why.body
  obtain ⟨y, hy, hyn⟩ := fresh_exists g [c, k, kc, ke, kl]
  obtain ⟨y2, hy2, hyn2⟩ := fresh_exists g [c, k, kc, ke, kl, y]
  obtain ⟨y3, hy3, hyn3⟩ := fresh_exists g [c, k, kc, ke, kl, y, y2]
  simp only [List.mem_cons, List.mem_nil_iff, or_false, not_or] at hyn hyn2 hyn3
  have hyk := hyn.2.1
  have m : Mv [k, y, y2, y3] g g := Mv.refl _ _
  refine new_C g y fun pc q1 m1 bc => ?_
  replace m := m.step m1 (by simp)
  replace x := x.mv m1 (by simp) (by simp) (by simp)
  replace mk := mk.mv m1 (by simp) (by simp)
  refine new_C q1 y fun pe q2 m2 be => ?_
  replace m := m.step m2 (by simp)
  replace x := x.mv m2 (by simp) (by simp) (by simp)
  replace mk := mk.mv m2 (by simp) (by simp)
  replace bc := bc.mv m2 (by simp)
  rw [loadK_C bc]
  refine ⟨some ⟨p, 0, none⟩, rfl, ?_⟩
  refine made_spec x ⟨_, rfl, ?_⟩
  dsimp only
  rw [if_neg (by simp), loadK_C bc]
  refine ⟨some ⟨p, 0, none⟩, rfl, ?_⟩
  rw [fldK_some]
  refine loadK_cells (entryAt oke (blkCells be)).number (k := .int .i64) (j := 0) e.number rfl rfl ?_
  refine chnAt_spec x hl e.number fun q3 m3 => ⟨(_, _), rfl, ?_⟩
  replace m := m.step m3 (by simp)
  replace x := x.mv m3 (by simp) (by simp) (by simp)
  replace mk := mk.mv m3 (by simp) (by simp)
  replace bc := bc.mv m3 (by simp)
  replace be := be.mv m3 (by simp)
  have oka : ShEntry.ok (atT es e.number).1 := by
    obtain ⟨se, sl, b, oe, ol, hll, hg⟩ := x
    exact atT_ok oe.ok _
  rw [zEntry]
  refine new_C q3 y2 fun po q4 m4 bo => ?_
  replace m := m.step m4 (by simp)
  replace x := x.mv m4 (by simp) (by simp) (by simp)
  replace mk := mk.mv m4 (by simp) (by simp)
  replace bc := bc.mv m4 (by simp)
  replace be := be.mv m4 (by simp)
  rw [zBool]
  refine new_C q4 y3 fun pt q5 m5 bt => ?_
  replace m := m.step m5 (by simp)
  replace x := x.mv m5 (by simp) (by simp) (by simp)
  replace mk := mk.mv m5 (by simp) (by simp)
  replace bc := bc.mv m5 (by simp)
  replace be := be.mv m5 (by simp)
  replace bo := bo.mv m5 (by simp)
  dsimp only
  refine storeAgg_C bo (by rw [szEntry]; exact lenEntry oka) (by rw [szEntry, List.size_toArray, lenEntry okEntry0]; omega) (fun v hv => Sh.enc_one (s := ShEntry) rfl v hv) fun q6 m6 bo => ?_
  rw [overA_all (by rw [List.size_toArray, lenEntry okEntry0]; exact lenEntry oka)] at bo
  replace m := m.step m6 (by simp)
  replace x := x.mv m6 (by simp [Ne.symm hyn2.2.2.1]) (by simp [Ne.symm hyn2.2.2.2.1]) (by simp [Ne.symm hyn2.2.2.2.2.1])
  replace mk := mk.mv m6 (by simp [Ne.symm hyn2.1]) (by simp [Ne.symm hyn2.2.1])
  replace bc := bc.mv m6 (by simp [Ne.symm hyn2.2.2.2.2.2])
  replace be := be.mv m6 (by simp [Ne.symm hyn2.2.2.2.2.2])
  replace bt := bt.mv m6 (by simp [hyn3.2.2.2.2.2.2])
  refine store_C bt (by simp) rfl fun q7 m7 bt => ?_
  have e7 : (#[Value.bool false] : Array Value).setIfInBounds 0 (.bool (atT es e.number).2) = #[.bool (atT es e.number).2] := rfl
  rw [e7] at bt
  replace m := m.step m7 (by simp)
  replace x := x.mv m7 (by simp [Ne.symm hyn3.2.2.1]) (by simp [Ne.symm hyn3.2.2.2.1]) (by simp [Ne.symm hyn3.2.2.2.2.1])
  replace mk := mk.mv m7 (by simp [Ne.symm hyn3.1]) (by simp [Ne.symm hyn3.2.1])
  replace bc := bc.mv m7 (by simp [Ne.symm hyn3.2.2.2.2.2.1])
  replace be := be.mv m7 (by simp [Ne.symm hyn3.2.2.2.2.2.1])
  replace bo := bo.mv m7 (by simp [Ne.symm hyn3.2.2.2.2.2.2])
  have hre : ∀ j ∈ [k, y, y2, y3], j ∈ [k] ∨ Fresh g j := by
    intro j hj
    simp only [List.mem_cons, List.mem_nil_iff, or_false] at hj
    rcases hj with rfl | rfl | rfl | rfl
    · exact .inl (by simp)
    · exact .inr hy
    · exact .inr hy2
    · exact .inr hy3
  have fin : ∀ (n : Int) (a : List ShThing.T), whyT real asked game es ls e = (n, a) → ∀ q : GH, Mv [k, y, y2, y3] g q → MakC q c k pm real seed a → R (.int .i64 n) q.h := by
    intro n a ea q mq mkq
    have := H (g.via q id) (mq.re id hre) (by rw [ea]; exact mkq.re (φ := id) mq (.inl rfl) (.inl rfl))
    rw [ea] at this
    exact this
  clear m1 m2 m3 m4 m5 m6 m7
  refine ⟨#[.int .i64 2, .func (.func F.chain_Chain_Why_1) #[] #[.pointer (some ⟨pe, 0, none⟩)]], fun w => by kernel_rfl, ?_⟩
  refine ⟨#[.int .i64 14, .func (.func F.chain_Chain_Why_2) #[] #[.pointer (some ⟨pe, 0, none⟩), .pointer (some ⟨pc, 0, none⟩)]], fun w => by kernel_rfl, ?_⟩
  refine ⟨#[.int .i64 12, .func (.func F.chain_Chain_Why_3) #[] #[.pointer (some ⟨pt, 0, none⟩), .pointer (some ⟨po, 0, none⟩), .pointer (some ⟨pe, 0, none⟩)]], fun w => by kernel_rfl, ?_⟩
  refine ⟨#[.int .i64 15, .func (.func F.chain_Chain_Why_4) #[] #[.pointer (some ⟨pt, 0, none⟩)]], fun w => by kernel_rfl, ?_⟩
  refine ⟨#[.int .i64 11, .func (.func F.chain_Chain_Why_5) #[] #[.pointer (some ⟨pe, 0, none⟩), .pointer (some ⟨pc, 0, none⟩)]], fun w => by kernel_rfl, ?_⟩
  refine ⟨#[.int .i64 7, .func (.func F.chain_Chain_Why_6) #[] #[.pointer (some ⟨pe, 0, none⟩), .pointer (some ⟨pc, 0, none⟩)]], fun w => by kernel_rfl, ?_⟩
  refine ⟨#[.int .i64 2, .func (.func F.chain_Chain_Why_1) #[] #[.pointer (some ⟨pe, 0, none⟩)], .int .i64 14, .func (.func F.chain_Chain_Why_2) #[] #[.pointer (some ⟨pe, 0, none⟩), .pointer (some ⟨pc, 0, none⟩)], .int .i64 12, .func (.func F.chain_Chain_Why_3) #[] #[.pointer (some ⟨pt, 0, none⟩), .pointer (some ⟨po, 0, none⟩), .pointer (some ⟨pe, 0, none⟩)], .int .i64 15, .func (.func F.chain_Chain_Why_4) #[] #[.pointer (some ⟨pt, 0, none⟩)], .int .i64 11, .func (.func F.chain_Chain_Why_5) #[] #[.pointer (some ⟨pe, 0, none⟩), .pointer (some ⟨pc, 0, none⟩)], .int .i64 7, .func (.func F.chain_Chain_Why_6) #[] #[.pointer (some ⟨pe, 0, none⟩), .pointer (some ⟨pc, 0, none⟩)]], fun w => by kernel_rfl, ?_⟩
  refine loopW_unfold fun X0 hX0 => ?_
  rw [if_pos (by decide)]
  refine ⟨#[.int .i64 2, .func (.func F.chain_Chain_Why_1) #[] #[.pointer (some ⟨pe, 0, none⟩)]], fun w hw => by kernel_rfl, ?_⟩
  rw [zRule]
  refine newStore_C _ y (by rw [szRule]; rfl) (by rw [szRule]; rfl) (by simp [Value.oneCell']) fun r0 g0 m0 br0 => ?_
  replace m := m.step m0 (by simp)
  replace mk := mk.mv m0 (by simp) (by simp)
  replace x := x.mv m0 (by simp) (by simp) (by simp)
  replace be := be.mv m0 (by simp)
  replace bc := bc.mv m0 (by simp)
  replace bo := bo.mv m0 (by simp)
  replace bt := bt.mv m0 (by simp)
  rw [fldK_some, loadK_C br0]
  refine ⟨.func (.func F.chain_Chain_Why_1) #[] #[.pointer (some ⟨pe, 0, none⟩)], rfl, ?_⟩
  refine .inl ⟨_, _, _, rfl, ?_⟩
  refine why1_spec be oke fun q1 n1 => ⟨_, rfl, ?_⟩
  replace m := m.step n1 (by simp)
  replace mk := mk.mv n1 (by simp) (by simp)
  replace x := x.mv n1 (by simp) (by simp) (by simp)
  replace be := be.mv n1 (by simp)
  replace bc := bc.mv n1 (by simp)
  replace bo := bo.mv n1 (by simp)
  replace bt := bt.mv n1 (by simp)
  replace br0 := br0.mv n1 (by simp)
  dsimp only
  by_cases c0 : entryOk e = false
  · rw [if_pos (by simp [c0]), fldK_some, loadK_C br0]
    exact ⟨2, rfl, fin _ _ (by unfold whyT; rw [if_pos c0]) _ m mk⟩
  rw [if_neg (by first | (simp [c0]; done) | simpa using c0)]
  refine hX0 _ _ ?_
  refine loopW_unfold fun X1 hX1 => ?_
  rw [if_pos (by decide)]
  refine ⟨#[.int .i64 14, .func (.func F.chain_Chain_Why_2) #[] #[.pointer (some ⟨pe, 0, none⟩), .pointer (some ⟨pc, 0, none⟩)]], fun w hw => by kernel_rfl, ?_⟩
  rw [zRule]
  refine newStore_C _ y (by rw [szRule]; rfl) (by rw [szRule]; rfl) (by simp [Value.oneCell']) fun r1 g1 m1 br1 => ?_
  replace m := m.step m1 (by simp)
  replace mk := mk.mv m1 (by simp) (by simp)
  replace x := x.mv m1 (by simp) (by simp) (by simp)
  replace be := be.mv m1 (by simp)
  replace bc := bc.mv m1 (by simp)
  replace bo := bo.mv m1 (by simp)
  replace bt := bt.mv m1 (by simp)
  rw [fldK_some, loadK_C br1]
  refine ⟨.func (.func F.chain_Chain_Why_2) #[] #[.pointer (some ⟨pe, 0, none⟩), .pointer (some ⟨pc, 0, none⟩)], rfl, ?_⟩
  refine .inl ⟨_, _, _, rfl, ?_⟩
  refine why2_spec be oke bc x ⟨_, rfl, ?_⟩
  dsimp only
  by_cases c1 : ¬ e.game = game
  · rw [if_pos (by simp [c1]), fldK_some, loadK_C br1]
    exact ⟨14, rfl, fin _ _ (by unfold whyT; rw [if_neg c0, if_pos c1]) _ m mk⟩
  rw [if_neg (by first | (simp [c1]; done) | simpa using c1)]
  refine hX1 _ _ ?_
  refine loopW_unfold fun X2 hX2 => ?_
  rw [if_pos (by decide)]
  refine ⟨#[.int .i64 12, .func (.func F.chain_Chain_Why_3) #[] #[.pointer (some ⟨pt, 0, none⟩), .pointer (some ⟨po, 0, none⟩), .pointer (some ⟨pe, 0, none⟩)]], fun w hw => by kernel_rfl, ?_⟩
  rw [zRule]
  refine newStore_C _ y (by rw [szRule]; rfl) (by rw [szRule]; rfl) (by simp [Value.oneCell']) fun r2 g2 m2 br2 => ?_
  replace m := m.step m2 (by simp)
  replace mk := mk.mv m2 (by simp) (by simp)
  replace x := x.mv m2 (by simp) (by simp) (by simp)
  replace be := be.mv m2 (by simp)
  replace bc := bc.mv m2 (by simp)
  replace bo := bo.mv m2 (by simp)
  replace bt := bt.mv m2 (by simp)
  rw [fldK_some, loadK_C br2]
  refine ⟨.func (.func F.chain_Chain_Why_3) #[] #[.pointer (some ⟨pt, 0, none⟩), .pointer (some ⟨po, 0, none⟩), .pointer (some ⟨pe, 0, none⟩)], rfl, ?_⟩
  refine .inl ⟨_, _, _, rfl, ?_⟩
  refine why3_spec bt bo be oka oke ⟨_, rfl, ?_⟩
  dsimp only
  by_cases c2 : (atT es e.number).2 = true ∧ (atT es e.number).1 = e
  · rw [if_pos (by simp [c2]), fldK_some, loadK_C br2]
    exact ⟨12, rfl, fin _ _ (by unfold whyT; rw [if_neg c0, if_neg c1, if_pos c2]) _ m mk⟩
  rw [if_neg (by first | (simp [c2]; done) | simpa using c2)]
  refine hX2 _ _ ?_
  refine loopW_unfold fun X3 hX3 => ?_
  rw [if_pos (by decide)]
  refine ⟨#[.int .i64 15, .func (.func F.chain_Chain_Why_4) #[] #[.pointer (some ⟨pt, 0, none⟩)]], fun w hw => by kernel_rfl, ?_⟩
  rw [zRule]
  refine newStore_C _ y (by rw [szRule]; rfl) (by rw [szRule]; rfl) (by simp [Value.oneCell']) fun r3 g3 m3 br3 => ?_
  replace m := m.step m3 (by simp)
  replace mk := mk.mv m3 (by simp) (by simp)
  replace x := x.mv m3 (by simp) (by simp) (by simp)
  replace be := be.mv m3 (by simp)
  replace bc := bc.mv m3 (by simp)
  replace bo := bo.mv m3 (by simp)
  replace bt := bt.mv m3 (by simp)
  rw [fldK_some, loadK_C br3]
  refine ⟨.func (.func F.chain_Chain_Why_4) #[] #[.pointer (some ⟨pt, 0, none⟩)], rfl, ?_⟩
  refine .inl ⟨_, _, _, rfl, ?_⟩
  refine why4_spec bt ⟨_, rfl, ?_⟩
  dsimp only
  by_cases c3 : (atT es e.number).2 = true
  · rw [if_pos (by simp [c3]), fldK_some, loadK_C br3]
    exact ⟨15, rfl, fin _ _ (by unfold whyT; rw [if_neg c0, if_neg c1, if_neg c2, if_pos c3]) _ m mk⟩
  rw [if_neg (by first | (simp [c3]; done) | simpa using c3)]
  refine hX3 _ _ ?_
  refine loopW_unfold fun X4 hX4 => ?_
  rw [if_pos (by decide)]
  refine ⟨#[.int .i64 11, .func (.func F.chain_Chain_Why_5) #[] #[.pointer (some ⟨pe, 0, none⟩), .pointer (some ⟨pc, 0, none⟩)]], fun w hw => by kernel_rfl, ?_⟩
  rw [zRule]
  refine newStore_C _ y (by rw [szRule]; rfl) (by rw [szRule]; rfl) (by simp [Value.oneCell']) fun r4 g4 m4 br4 => ?_
  replace m := m.step m4 (by simp)
  replace mk := mk.mv m4 (by simp) (by simp)
  replace x := x.mv m4 (by simp) (by simp) (by simp)
  replace be := be.mv m4 (by simp)
  replace bc := bc.mv m4 (by simp)
  replace bo := bo.mv m4 (by simp)
  replace bt := bt.mv m4 (by simp)
  rw [fldK_some, loadK_C br4]
  refine ⟨.func (.func F.chain_Chain_Why_5) #[] #[.pointer (some ⟨pe, 0, none⟩), .pointer (some ⟨pc, 0, none⟩)], rfl, ?_⟩
  refine .inl ⟨_, _, _, rfl, ?_⟩
  refine why5_spec be oke bc x ⟨_, rfl, ?_⟩
  dsimp only
  by_cases c4 : e.number > (es.length : Int)
  · rw [if_pos (by simp [c4]), fldK_some, loadK_C br4]
    exact ⟨11, rfl, fin _ _ (by unfold whyT; rw [if_neg c0, if_neg c1, if_neg c2, if_neg c3, if_pos c4]) _ m mk⟩
  rw [if_neg (by first | (simp [c4]; done) | simpa using c4)]
  refine hX4 _ _ ?_
  refine loopW_unfold fun X5 hX5 => ?_
  rw [if_pos (by decide)]
  refine ⟨#[.int .i64 7, .func (.func F.chain_Chain_Why_6) #[] #[.pointer (some ⟨pe, 0, none⟩), .pointer (some ⟨pc, 0, none⟩)]], fun w hw => by kernel_rfl, ?_⟩
  rw [zRule]
  refine newStore_C _ y (by rw [szRule]; rfl) (by rw [szRule]; rfl) (by simp [Value.oneCell']) fun r5 g5 m5 br5 => ?_
  replace m := m.step m5 (by simp)
  replace mk := mk.mv m5 (by simp) (by simp)
  replace x := x.mv m5 (by simp) (by simp) (by simp)
  replace be := be.mv m5 (by simp)
  replace bc := bc.mv m5 (by simp)
  replace bo := bo.mv m5 (by simp)
  replace bt := bt.mv m5 (by simp)
  rw [fldK_some, loadK_C br5]
  refine ⟨.func (.func F.chain_Chain_Why_6) #[] #[.pointer (some ⟨pe, 0, none⟩), .pointer (some ⟨pc, 0, none⟩)], rfl, ?_⟩
  refine .inl ⟨_, _, _, rfl, ?_⟩
  refine why6_spec D mk be hyk oke bc x hl fun q6 n6 mk6 => ⟨_, rfl, ?_⟩
  replace m := m.step n6 (by simp)
  replace br5 := br5.mv n6 (by simp [hyk])
  dsimp only
  by_cases c5 : ¬ e.ahead = (headT real asked game ls).1
  · rw [if_pos (by simpa using c5), fldK_some, loadK_C br5]
    exact ⟨7, rfl, fin _ _ (by unfold whyT; rw [if_neg c0, if_neg c1, if_neg c2, if_neg c3, if_neg c4, if_pos c5]) _ m mk6⟩
  rw [if_neg (by simpa using c5)]
  refine hX5 _ _ ?_
  refine loopW_unfold fun X6 hX6 => ?_
  rw [if_neg (by decide)]
  exact fin _ _ (by unfold whyT; rw [if_neg c0, if_neg c1, if_neg c2, if_neg c3, if_neg c4, if_neg c5]) _ m mk6


theorem chainNew_spec {g : GH} {c k pm : Nat} (kc ke kl : Nat) {real : Bool} {seed : List Int} {asked : List ShThing.T} (mk : MakC g c k pm real seed asked) (game : List Int) (hg : ShTag.ok game) {R : Value → Heap → Prop}
    (H : ∀ (p : Nat) (g' : GH), Mv [] g g' → ChnC g' kc ke kl p pm game [] [] → R (.tuple #[.pointer (some ⟨p, 0, none⟩), .int .i64 0]) g'.h) : HC Tryz.prog F.chain_New #[.pointer (some ⟨pm, 0, none⟩), .agg ⟨ShTag.enc game⟩] R g.h := by
  refine chain_New.calls ?_
  unfold chain_New.body
  obtain ⟨y, hy, hyn⟩ := fresh_exists g [c, k]
  have m : Mv [] g g := Mv.refl _ _
  refine new_C g y fun b q1 m1 b1 => ?_
  replace m := m.step m1 (by simp)
  refine makCopy_spec (mk.mv m1 (by simp) (by simp)) y y fun p2 q2 m2 _ => ⟨_, rfl, ?_⟩
  replace m := m.step m2 (by simp)
  try dsimp only
  rw [if_neg (by simp)]
  refine loadTagAt (blkCells (b1.mv m2 (by simp))) hg ?_
  refine ⟨smithA pm game, build_smith pm game hg, ?_⟩
  refine ⟨chnA pm game ⟨none, 0, 0⟩ ⟨none, 0, 0⟩, build_chain1 pm game hg, ?_⟩
  refine new_C q2 kc fun p q3 m3 b3 => ?_
  replace m := m.step m3 (by simp)
  exact H p q3 m ⟨_, _, b3, OwnF.nil _ _ _ _, OwnF.nil _ _ _ _, rfl, hg⟩

theorem chnEntries_spec {g : GH} {kc ke kl p pm : Nat} {game : List Int} {es : List EntryT} {ls : List (List Int)} (x : ChnC g kc ke kl p pm game es ls) (hl : es.length ≤ 1000000) (c : Nat) {R : Value → Heap → Prop}
    (H : ∀ (s : Sl) (g' : GH), Mv [] g g' → OwnF T.api_Entry ShEntry g' c s es → R (.slice s.a s.n s.c) g'.h) : HC Tryz.prog F.chain_Chain_Entries #[.pointer (some ⟨p, 0, none⟩)] R g.h := by
  refine chain_Chain_Entries.calls ?_
  unfold chain_Chain_Entries.body
  refine made_spec x ⟨_, rfl, ?_⟩
  obtain ⟨se, sl, b, oe, ol, hll, hg⟩ := x
  try dsimp only
  rw [if_neg (by simp), derefK_some, fldK_some, loadK_C b]
  refine ⟨se, by rw [Nat.zero_add]; exact chn33 hg se sl, ?_⟩
  exact cloneEntries_spec g c se es (oe.slc rfl (by omega)) (by omega) fun s g' m o => ⟨_, rfl, H s g' m o⟩

theorem loadSmith {g : GH} {kc p pm : Nat} {game : List Int} (hg : ShTag.ok game) {se sl : Sl} (bc : BlkC g kc p (chnA pm game se sl) T.chain_Chain) {K : Array Value → Prop} (H : K (smithA pm game)) : loadAggK (sizeOfT Tryz.prog T.chain_smith) g.h (some ⟨p, 0 + 0, none⟩) K := by
  rw [loadAggK_C bc]
  refine ⟨by rw [szSmith, chnA_size hg]; omega, ?_⟩
  have e1 : (chnA pm game se sl).extract (0 + 0) (0 + 0 + sizeOfT Tryz.prog T.chain_smith) = smithA pm game := by
    rw [szSmith]
    apply Array.toList_inj.1
    rw [Array.toList_extract]
    simp only [List.extract_eq_take_drop]
    show (([Value.pointer (some ⟨pm, 0, none⟩)] ++ (ShTag.enc game ++ ([slV se] ++ ([slV sl] ++ [])))).drop 0).take 33 = _
    rw [List.drop_zero, ← List.append_assoc, List.take_left' (by simp [lenTag hg])]
    rfl
  rw [e1]
  exact H

theorem chnCopy_spec {g : GH} {kc ke kl p pm : Nat} {game : List Int} {es : List EntryT} {ls : List (List Int)} (x : ChnC g kc ke kl p pm game es ls) (hl : es.length ≤ 1000000) (kc' ke' kl' : Nat) {R : Value → Heap → Prop}
    (H : ∀ (p' : Nat) (g' : GH), Mv [] g g' → ChnC g' kc' ke' kl' p' pm game es ls → R (.pointer (some ⟨p', 0, none⟩)) g'.h) : HC Tryz.prog F.chain_Chain_Copy #[.pointer (some ⟨p, 0, none⟩)] R g.h := by
  refine chain_Chain_Copy.calls ?_
  unfold chain_Chain_Copy.body
  refine made_spec x ⟨_, rfl, ?_⟩
  obtain ⟨se, sl, b, oe, ol, hll, hg⟩ := x
  try dsimp only
  rw [if_neg (by simp)]
  simp only [derefK_some, fldK_some]
  refine loadSmith hg b ?_
  rw [loadK_C b]
  refine ⟨se, by rw [Nat.zero_add]; exact chn33 hg se sl, ?_⟩
  rw [loadK_C b]
  refine ⟨sl, by rw [Nat.zero_add]; exact chn34 hg se sl, ?_⟩
  have m : Mv [] g g := Mv.refl _ _
  refine cloneEntries_spec g ke' se es (oe.slc rfl (by omega)) (by omega) fun s1 g1 m1 o1 => ⟨_, rfl, ?_⟩
  replace m := m.step m1 (by simp)
  have b1 := b.mv m1 (by simp)
  refine ⟨stillK_C b1 (by rw [Nat.zero_add]; exact chn34 hg se sl), loadSmith hg b1 rfl, ?_⟩
  refine cloneTags_spec g1 kl' sl ls ((ol.mv m1 (by simp)).slc rfl (by omega)) (by omega) fun s2 g2 m2 o2 => ⟨_, rfl, ?_⟩
  replace m := m.step m2 (by simp)
  have b2 := b1.mv m2 (by simp)
  refine ⟨loadSmith hg b2 rfl, ?_⟩
  refine ⟨chnA pm game s1 s2, build_chain3 pm game hg s1 s2, ?_⟩
  refine new_C g2 kc' fun p3 g3 m3 b3 => ?_
  replace m := m.step m3 (by simp)
  exact H p3 g3 m ⟨s1, s2, b3, (o1.mv m2 (by simp)).mv m3 (by simp), o2.mv m3 (by simp), hll, hg⟩

/-! ### Adding -/

/-- What a chain and its maker hold: what was asked, the entries, their tags. -/
abbrev ChSt : Type := List ShThing.T × List EntryT × List (List Int)
def whyS (real : Bool) (game : List Int) (st : ChSt) (e : EntryT) : Int × List ShThing.T := whyT real st.1 game st.2.1 st.2.2 e
def addT (real : Bool) (game : List Int) : ChSt → List EntryT → Int × ChSt
  | st, [] => (0, st)
  | st, e :: l => if (whyS real game st e).1 = 0 then addT real game ((linkT real (whyS real game st e).2 e).2, st.2.1 ++ [e], st.2.2 ++ [(linkT real (whyS real game st e).2 e).1]) l
    else ((whyS real game st e).1, (whyS real game st e).2, st.2)

/-- A maker and a chain of its. -/
structure CM (g : GH) (c k kc ke kl p pm : Nat) (real : Bool) (seed game : List Int) (st : ChSt) : Prop where
  ma : MakC g c k pm real seed st.1
  ch : ChnC g kc ke kl p pm game st.2.1 st.2.2
theorem CM.mv {K : List Nat} {g g' : GH} {c k kc ke kl p pm : Nat} {real : Bool} {seed game : List Int} {st : ChSt} (x : CM g c k kc ke kl p pm real seed game st) (m : Mv K g g') (h1 : c ∉ K) (h2 : k ∉ K) (h3 : kc ∉ K) (h4 : ke ∉ K) (h5 : kl ∉ K) : CM g' c k kc ke kl p pm real seed game st :=
  ⟨x.ma.mv m h1 h2, x.ch.mv m h3 h4 h5⟩

set_option maxHeartbeats 1000000 in
theorem add_spec {g : GH} {c k kc ke kl d p pm : Nat} (D : Dis c k kc ke kl) (hd1 : ¬ d = k) (hd2 : ¬ d = kc) (hd3 : ¬ d = ke) (hd4 : ¬ d = kl) {real : Bool} {seed game : List Int} {st0 : ChSt} (x : CM g c k kc ke kl p pm real seed game st0) (v : Sl) (l : List EntryT) (hv : SlC g d ShEntry v l) (hl : st0.2.1.length + l.length ≤ 1000000)
    {R : Value → Heap → Prop} (H : ∀ g' : GH, Mv [k, kc, ke, kl] g g' → CM g' c k kc ke kl p pm real seed game (addT real game st0 l).2 → R (.int .i64 (addT real game st0 l).1) g'.h) : HC Tryz.prog F.chain_Chain_Add #[.pointer (some ⟨p, 0, none⟩), .slice v.a v.n v.c] R g.h := by
  refine chain_Chain_Add.calls (l1 := v) ?_
  unfold chain_Chain_Add.body
  obtain ⟨y, hy, hyn⟩ := fresh_exists g [c, k, kc, ke, kl, d]
  simp only [List.mem_cons, List.mem_nil_iff, or_false, not_or] at hyn
  refine made_spec x.ch ⟨_, rfl, ?_⟩
  try dsimp only
  rw [if_neg (by simp)]
  have hn := hv.len
  have hre : ∀ j ∈ [k, kc, ke, kl, y], j ∈ [k, kc, ke, kl] ∨ Fresh g j := by
    intro j hj
    simp only [List.mem_cons, List.mem_nil_iff, or_false] at hj
    rcases hj with rfl | rfl | rfl | rfl | rfl
    · exact .inl (by simp)
    · exact .inl (by simp)
    · exact .inl (by simp)
    · exact .inl (by simp)
    · exact .inr hy
  have fin : ∀ (n : Int) (st : ChSt), addT real game st0 l = (n, st) → ∀ q : GH, Mv [k, kc, ke, kl, y] g q → CM q c k kc ke kl p pm real seed game st → R (.int .i64 n) q.h := by
    intro n st e q mq cm
    have := H (g.via q id) (mq.re id hre) (by rw [e]; exact ⟨cm.ma.re (φ := id) mq (.inl rfl) (.inl rfl), cm.ch.re (φ := id) mq (.inl rfl) (.inl rfl) (.inl rfl)⟩)
    rw [e] at this
    exact this
  refine loopW_rule (fun s h' => ∃ (i : Nat) (st : ChSt) (q : GH), i ≤ l.length ∧ s = (i : Int) ∧ h' = q.h ∧ Mv [k, kc, ke, kl, y] g q ∧ CM q c k kc ke kl p pm real seed game st ∧ st.2.1.length = st0.2.1.length + i ∧ addT real game st0 l = addT real game st (l.drop i)) (fun s => l.length - s.toNat)
    ⟨0, st0, g, by omega, rfl, rfl, Mv.refl _ _, x, by omega, by simp⟩ ?_
  rintro X _ _ ⟨i, st, q, hi, rfl, rfl, m, x, hlen, hadd⟩ hX
  try dsimp only
  by_cases hlt : i < l.length
  · rw [if_pos (by first | omega | (simp [hn]; omega))]
    have hdrop : l.drop i = l[i] :: l.drop (i + 1) := List.drop_eq_getElem_cons hlt
    rw [hdrop] at hadd
    have hv1 := hv.mv m (by simp [hd1, hd2, hd3, hd4, Ne.symm hyn.2.2.2.2.2])
    refine hv1.idxF rfl szEntry (by decide) hlt fun b1 o1 c1 oke l1 => loadF c1 szEntry (by decide) l1 ?_
    rw [zEntry]
    refine newStore_C q y (by rw [szEntry]; exact lenEntry oke) (by rw [szEntry, List.size_toArray, lenEntry okEntry0]) (fun v hv => Sh.enc_one (s := ShEntry) rfl v hv) fun pe q1 m1 be => ?_
    replace m := m.step m1 (by simp)
    replace x := x.mv m1 (by simp) (by simp) (by simp) (by simp) (by simp)
    refine loadEntryAt (blkCells be) oke ?_
    refine why_spec D x.ma x.ch (by omega) l[i] oke fun q2 m2 mk2 => ⟨_, rfl, ?_⟩
    replace m := m.step m2 (by simp)
    have ch2 := x.ch.mv m2 (by simp [Ne.symm D.kkc]) (by simp [Ne.symm D.kke]) (by simp [Ne.symm D.kkl])
    have be2 := be.mv m2 (by simp [hyn.2.1])
    try dsimp only
    by_cases hw : (whyS real game st l[i]).1 = 0
    · have hw' : (whyT real st.1 game st.2.1 st.2.2 l[i]).1 = 0 := hw
      rw [if_neg (by simp [hw'])]
      obtain ⟨se, sl, bc, oe, ol, hll, hg⟩ := ch2
      rw [derefK_some, fldK_some, loadK_C bc]
      refine ⟨se, by rw [Nat.zero_add]; exact chn33 hg se sl, ?_⟩
      refine loadEntryAt (blkCells be2) oke ?_
      refine mkEntry_C q2 y oke fun s3 q3 m3 o3 hc3 => ?_
      replace m := m.step m3 (by simp)
      replace bc := bc.mv m3 (by simp)
      replace oe := oe.mv m3 (by simp)
      replace ol := ol.mv m3 (by simp)
      replace be2 := be2.mv m3 (by simp)
      replace mk2 := mk2.mv m3 (by simp) (by simp)
      have h3 := o3.len
      have hel := oe.len
      simp only [List.length_cons, List.length_nil] at h3
      refine appendEntries_C oe (o3.slc rfl (by simp)) (by omega) fun s4 q4 m4 oe => ?_
      replace m := m.step m4 (by simp)
      replace bc := bc.mv m4 (by simp [D.kcke])
      replace ol := ol.mv m4 (by simp [Ne.symm D.kekl])
      replace be2 := be2.mv m4 (by simp [hyn.2.2.2.1])
      replace mk2 := mk2.mv m4 (by simp [D.cke]) (by simp [D.kke])
      rw [derefK_some, fldK_some]
      refine store_C bc (by rw [chnA_size hg]; omega) rfl fun q5 m5 bc => ?_
      rw [Nat.zero_add] at bc
      have e5 : (chnA pm game se sl).setIfInBounds 33 (.slice s4.a s4.n s4.c) = chnA pm game s4 sl := chnSet33 hg se sl s4
      rw [e5] at bc
      replace m := m.step m5 (by simp)
      replace oe := oe.mv m5 (by simp [Ne.symm D.kcke])
      replace ol := ol.mv m5 (by simp [Ne.symm D.kckl])
      replace be2 := be2.mv m5 (by simp [hyn.2.2.1])
      replace mk2 := mk2.mv m5 (by simp [D.ckc]) (by simp [D.kkc])
      simp only [derefK_some, fldK_some]
      rw [loadK_C bc]
      refine ⟨sl, by rw [Nat.zero_add]; exact chn34 hg s4 sl, ?_⟩
      refine loadSmith hg bc ?_
      refine loadEntryAt (blkCells be2) oke ?_
      refine link_spec D.ck mk2 game hg l[i] oke fun q6 m6 mk6 => ⟨_, rfl, ?_⟩
      replace m := m.step m6 (by simp)
      replace bc := bc.mv m6 (by simp [Ne.symm D.kkc])
      replace oe := oe.mv m6 (by simp [Ne.symm D.kke])
      replace ol := ol.mv m6 (by simp [Ne.symm D.kkl])
      refine ⟨stillK_C bc (by rw [Nat.zero_add]; exact chn34 hg s4 sl), ?_⟩
      rw [tagA_enc]
      have okt : ShTag.ok (linkT real (whyT real st.1 game st.2.1 st.2.2 l[i]).2 l[i]).1 := okTag (sumT_length _ _ _) (sumT_byte _ _ _)
      refine mkTag_C q6 y okt fun s7 q7 m7 o7 hc7 => ?_
      replace m := m.step m7 (by simp)
      replace bc := bc.mv m7 (by simp)
      replace oe := oe.mv m7 (by simp)
      replace ol := ol.mv m7 (by simp)
      replace mk6 := mk6.mv m7 (by simp) (by simp)
      have h7 := o7.len
      have hol := ol.len
      simp only [List.length_cons, List.length_nil] at h7
      refine appendTags_C ol (o7.slc rfl (by simp)) (by omega) fun s8 q8 m8 ol => ?_
      replace m := m.step m8 (by simp)
      replace bc := bc.mv m8 (by simp [D.kckl])
      replace oe := oe.mv m8 (by simp [D.kekl])
      replace mk6 := mk6.mv m8 (by simp [D.ckl]) (by simp [D.kkl])
      refine store_C bc (by rw [chnA_size hg]; omega) rfl fun q9 m9 bc => ?_
      rw [Nat.zero_add] at bc
      have e9 : (chnA pm game s4 sl).setIfInBounds 34 (.slice s8.a s8.n s8.c) = chnA pm game s4 s8 := chnSet34 hg s4 sl s8
      rw [e9] at bc
      replace m := m.step m9 (by simp)
      replace oe := oe.mv m9 (by simp [Ne.symm D.kcke])
      replace ol := ol.mv m9 (by simp [Ne.symm D.kckl])
      replace mk6 := mk6.mv m9 (by simp [D.ckc]) (by simp [D.kkc])
      rw [wrapSucc (by omega)]
      refine hX _ _ ⟨i + 1, ((linkT real (whyS real game st l[i]).2 l[i]).2, st.2.1 ++ [l[i]], st.2.2 ++ [(linkT real (whyS real game st l[i]).2 l[i]).1]), q9, by omega, rfl, rfl, m, ⟨mk6, s4, s8, bc, oe, ol, by simp [hll], hg⟩, by simp; omega, ?_⟩ (by simp; omega)
      rw [hadd, addT, if_pos hw]
    · have hw' : ¬ (whyT real st.1 game st.2.1 st.2.2 l[i]).1 = 0 := hw
      rw [if_pos (by simp [hw'])]
      exact fin _ ((whyS real game st l[i]).2, st.2) (by rw [hadd, addT, if_neg hw]; rfl) q2 m ⟨mk2, ch2⟩
  · rw [if_neg (by first | omega | (simp [hn]; omega))]
    have hi' : i = l.length := by omega
    subst hi'
    rw [List.drop_length] at hadd
    exact fin 0 st (by rw [hadd]; rfl) q m x


def nextT (real : Bool) (game : List Int) (st : ChSt) (b : BodyT) : Int × EntryT × List ShThing.T :=
  if bodyOk b = true then (0, (game, (st.2.1.length : Int), (headT real st.1 game st.2.2).1, b, ()), (headT real st.1 game st.2.2).2) else (2, entry0, st.1)

set_option maxHeartbeats 1000000 in
theorem chnNext_spec {g : GH} {c k kc ke kl p pm : Nat} (D : Dis c k kc ke kl) {real : Bool} {seed game : List Int} {st : ChSt} (x : CM g c k kc ke kl p pm real seed game st) (hl : st.2.1.length ≤ 1000000) (b : BodyT) (okb : ShBody.ok b)
    {R : Value → Heap → Prop} (H : ∀ g' : GH, Mv [k] g g' → CM g' c k kc ke kl p pm real seed game ((nextT real game st b).2.2, st.2) → ShEntry.ok (nextT real game st b).2.1 → R (.tuple #[.agg ⟨ShEntry.enc (nextT real game st b).2.1⟩, .int .i64 (nextT real game st b).1]) g'.h) :
    HC Tryz.prog F.chain_Chain_Next #[.pointer (some ⟨p, 0, none⟩), .agg ⟨ShBody.enc b⟩] R g.h := by
  refine chain_Chain_Next.calls ?_
  unfold chain_Chain_Next.body
  obtain ⟨y, hy, hyn⟩ := fresh_exists g [c, k, kc, ke, kl]
  obtain ⟨y2, hy2, hyn2⟩ := fresh_exists g [c, k, kc, ke, kl, y]
  simp only [List.mem_cons, List.mem_nil_iff, or_false, not_or] at hyn hyn2
  have m : Mv [k, y, y2] g g := Mv.refl _ _
  refine new_C g y fun pb q1 m1 bb => ?_
  replace m := m.step m1 (by simp)
  replace x := x.mv m1 (by simp) (by simp) (by simp) (by simp) (by simp)
  rw [zEntry]
  refine new_C q1 y2 fun pe q2 m2 be => ?_
  replace m := m.step m2 (by simp)
  replace x := x.mv m2 (by simp) (by simp) (by simp) (by simp) (by simp)
  replace bb := bb.mv m2 (by simp)
  have hre : ∀ j ∈ [k, y, y2], j ∈ [k] ∨ Fresh g j := by
    intro j hj
    simp only [List.mem_cons, List.mem_nil_iff, or_false] at hj
    rcases hj with rfl | rfl | rfl
    · exact .inl (by simp)
    · exact .inr hy
    · exact .inr hy2
  have fin : ∀ (n : Int) (e : EntryT) (a : List ShThing.T), nextT real game st b = (n, e, a) → ShEntry.ok e → ∀ q : GH, Mv [k, y, y2] g q → CM q c k kc ke kl p pm real seed game (a, st.2) → R (.tuple #[.agg ⟨ShEntry.enc e⟩, .int .i64 n]) q.h := by
    intro n e a ea oke q mq cm
    have := H (g.via q id) (mq.re id hre) (by rw [ea]; exact ⟨cm.ma.re (φ := id) mq (.inl rfl) (.inl rfl), cm.ch.re (φ := id) mq (.inl rfl) (.inl rfl) (.inl rfl)⟩) (by rw [ea]; exact oke)
    rw [ea] at this
    exact this
  refine joinW_intro (fun _ h' => ∃ q : GH, h' = q.h ∧ Mv [k, y, y2] g q ∧ CM q c k kc ke kl p pm real seed game st ∧ BlkC q y pb ⟨ShBody.enc b⟩ T.api_Body ∧ BlkC q y2 pe ⟨ShEntry.enc entry0⟩ T.api_Entry ∧ bodyOk b = true) ?_ ?_
  · intro J hJ
    refine made_spec x.ch ⟨_, rfl, ?_⟩
    try dsimp only
    rw [if_neg (by simp)]
    refine loadBodyAt (blkCells bb) okb ?_
    refine msgBody_spec q2 b okb fun q3 m3 => ⟨_, rfl, ?_⟩
    replace m := m.step m3 (by simp)
    replace x := x.mv m3 (by simp) (by simp) (by simp) (by simp) (by simp)
    replace bb := bb.mv m3 (by simp)
    replace be := be.mv m3 (by simp)
    try dsimp only
    by_cases hb : bodyOk b = true
    · rw [if_neg (by simp [hb])]
      refine chnLen_spec x.ch ⟨_, rfl, ?_⟩
      try dsimp only
      rw [if_neg (by simp; omega)]
      exact hJ _ _ ⟨q3, rfl, m, x, bb, be, hb⟩
    · rw [if_pos (by simpa using hb), if_pos (by simpa using hb)]
      refine loadEntryAt (blkCells be) okEntry0 ?_
      refine resultE be (by rw [List.size_toArray, lenEntry okEntry0]) okEntry0 fun q4 m4 => ?_
      refine fin _ _ _ (by unfold nextT; rw [if_neg hb]) okEntry0 q4 (m.step m4 (by simp)) ?_
      exact x.mv m4 (by simp [Ne.symm hyn2.1]) (by simp [Ne.symm hyn2.2.1]) (by simp [Ne.symm hyn2.2.2.1]) (by simp [Ne.symm hyn2.2.2.2.1]) (by simp [Ne.symm hyn2.2.2.2.2.1])
  · clear m m1 m2 x bb be
    rintro _ _ ⟨q, rfl, m, x, bb, be, hb⟩
    obtain ⟨se, sl, bc, oe, ol, hll, hg⟩ := x.ch
    rw [derefK_some, fldK_some, fldK_some]
    refine loadTagAt (chnGame bc) hg ?_
    refine loadBodyAt (blkCells bb) okb ?_
    refine chnLen_spec x.ch ⟨_, rfl, ?_⟩
    refine ⟨stillF (s := ShBody) (blkCells bb) szBody (by decide) (lenBody okb), stillF (s := ShTag) (chnGame bc) szTag (by decide) (lenTag hg), ?_⟩
    refine head_spec D x.ma x.ch (by omega) fun q1 m1 mk1 => ⟨_, rfl, ?_⟩
    have bb1 := bb.mv m1 (by simp [hyn.2.1])
    have bc1 := bc.mv m1 (by simp [Ne.symm D.kkc])
    refine ⟨stillF (s := ShBody) (blkCells bb1) szBody (by decide) (lenBody okb), stillF (s := ShTag) (chnGame bc1) szTag (by decide) (lenTag hg), ?_⟩
    have okh : ShTag.ok (headT real st.1 game st.2.2).1 := headT_ok ol.ok _ _ _
    refine ⟨⟨ShEntry.enc (game, (st.2.1.length : Int), (headT real st.1 game st.2.2).1, b, ())⟩, build_Entry _ _ _ _ hg okh okb, ?_⟩
    have oke : ShEntry.ok (game, (st.2.1.length : Int), (headT real st.1 game st.2.2).1, b, ()) := ⟨hg, okI ⟨by show (-9223372036854775808 : Int) ≤ (st.2.1.length : Int); omega, by show (st.2.1.length : Int) ≤ 9223372036854775807; omega⟩, okh, okb, trivial⟩
    refine resultE (be.mv m1 (by simp [hyn2.2.1])) (by rw [List.size_toArray, lenEntry okEntry0]) oke fun q2 m2 => ?_
    refine fin _ _ _ (by unfold nextT; rw [if_pos hb]) oke q2 ((m.step m1 (by simp)).step m2 (by simp)) ?_
    exact CM.mv ⟨mk1, x.ch.mv m1 (by simp [Ne.symm D.kkc]) (by simp [Ne.symm D.kke]) (by simp [Ne.symm D.kkl])⟩ m2 (by simp [Ne.symm hyn2.1]) (by simp [Ne.symm hyn2.2.1]) (by simp [Ne.symm hyn2.2.2.1]) (by simp [Ne.symm hyn2.2.2.2.1]) (by simp [Ne.symm hyn2.2.2.2.2.1])

end Go.Proofs.YtobdneijofchkaaGreat
