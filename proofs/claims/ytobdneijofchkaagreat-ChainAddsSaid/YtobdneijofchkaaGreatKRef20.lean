/-
  The document's chain of entries, of a real maker.
-/
import Derived.Test.YtobdneijofchkaaGreatKScribe
import Derived.Test.YtobdneijofchkaaGreatKRef18
import Derived.Test.YtobdneijofchkaaGreatKRef02
import Derived.Test.YtobdneijofchkaaGreatKEntries
import Derived.Test.YtobdneijofchkaaGreatMem3
set_option linter.unusedSimpArgs false
set_option linter.unusedVariables false
namespace Go.Proofs.YtobdneijofchkaaGreat
open Go Go.Ev

def root20 (game : List Int) : List Int := shaB (rootB ++ game)
def tag20 (e : EntryT) : List Int := shaB (linkB ++ entryBytes e)
def head20 (game : List Int) (es : List EntryT) : List Int := if es.length = 0 then root20 game else tag20 (es.getD (es.length - 1) entry0)
def next20 (game : List Int) (es : List EntryT) (b : BodyT) : EntryT × Int := if bodyOk b = true then ((game, (es.length : Int), head20 game es, b, ()), 0) else (entry0, 2)
theorem okSha (bs : List Int) : ShTag.ok (shaB bs) := okTag (shaB_length _) (shaB_byte _)
theorem okHead20 (game : List Int) (es : List EntryT) : ShTag.ok (head20 game es) := by
  unfold head20; split <;> exact okSha _
theorem okNext20 {game : List Int} (hg : ShTag.ok game) {es : List EntryT} (hl : es.length ≤ 1000000) {b : BodyT} (hb : ShBody.ok b) : ShEntry.ok (next20 game es b).1 := by
  unfold next20
  split
  · exact ⟨hg, okI (by constructor <;> (dsimp only; omega)), okHead20 _ _, hb, trivial⟩
  · exact okEntry0

/-- A real maker of the document's. -/
def MkR (g : GH) (c p : Nat) : Prop := ∃ (cells : Array Value) (e : TypeId), BlkC g c p cells e ∧ cells[0]? = some (.bool true)
theorem MkR.mv {K : List Nat} {g g' : GH} {c p : Nat} (x : MkR g c p) (m : Mv K g g') (hk : c ∉ K) : MkR g' c p := by
  obtain ⟨cells, e, b, h⟩ := x
  exact ⟨cells, e, b.mv m hk, h⟩
theorem MkR.base {g : GH} {c p : Nat} (x : MkR g c p) : MkR g.base 0 p := by
  obtain ⟨cells, e, b, h⟩ := x
  exact ⟨cells, e, b.base, h⟩

theorem refSumR_spec {g : GH} {c d p : Nat} (x : MkR g c p) (b : Sl) (bs : List Int) (hr : RdC 1 g d b (bs.map byV)) (hl : bs.length ≤ 80000000) (hby : ∀ x ∈ bs, isByte x) {R : Value → Heap → Prop} (H : ∀ g' : GH, Mv [] g g' → R (.agg (tagA (shaB bs))) g'.h) :
    HC Tryz.prog F.ref04_Maker_Sum #[.pointer (some ⟨p, 0, none⟩), .slice b.a b.n b.c] R g.h := by
  refine ref04_Maker_Sum.calls (b1 := b) ?_
  unfold ref04_Maker_Sum.body
  have m := Mv.refl [1] g.base
  have x0 := x.base
  rw [zTag]
  refine new_C g.base 1 fun t q1 m1 b1 => ?_
  replace m := m.step m1 (by simp)
  obtain ⟨cells, e, bx, h0⟩ := x0.mv m1 (by simp)
  rw [derefK_some, fldK_some, loadK_C bx]
  refine ⟨true, h0, ?_⟩
  rw [if_pos rfl]
  refine refOf_spec q1 b bs (hr.arg m (by simp)) hl hby fun q2 m2 => ⟨_, rfl, ?_⟩
  replace m := m.step m2 (by simp)
  refine result_C (n := 32) szTag dTag (b1.mv m2 (by simp)) (by simp) (by simp [shaB_length]) (fun v hv => oneBy _ v hv) fun q3 m3 => ?_
  replace m := m.step m3 (by simp)
  exact H (g.via q3 fun _ => 0) (m.via (by simp) _)

theorem ref20Root_spec {g : GH} {c p : Nat} (x : MkR g c p) (game : List Int) (hg : ShTag.ok game) {R : Value → Heap → Prop} (H : ∀ g' : GH, Mv [] g g' → R (.agg (tagA (root20 game))) g'.h) :
    HC Tryz.prog F.ref20_Root #[.pointer (some ⟨p, 0, none⟩), .agg ⟨ShTag.enc game⟩] R g.h := by
  refine ref20_Root.calls ?_
  unfold ref20_Root.body
  have m := Mv.refl [1, 2, 3, 4] g.base
  refine new_C g.base 1 fun pg q1 m1 b1 => ?_
  replace m := m.step m1 (by simp)
  rw [zTag]
  refine new_C q1 2 fun t q2 m2 b2 => ?_
  replace m := m.step m2 (by simp)
  replace b1 := b1.mv m2 (by simp)
  refine newSl_C q2 3 rfl fun s3 q3 m3 o3 hn3 hc3 => ?_
  replace m := m.step m3 (by simp)
  replace b1 := b1.mv m3 (by simp)
  replace b2 := b2.mv m3 (by simp)
  refine convRd (e := T.uint8) (by kernel_rfl) (by kernel_rfl) o3 (by simp) fun q4 m4 r4 k4 => ?_
  replace m := m.step m4 (by simp)
  replace b1 := b1.mv m4 (by simp)
  replace b2 := b2.mv m4 (by simp)
  have hgl : game.length = 32 := hg.1
  have e4 : ([.int .u8 114, .int .u8 111, .int .u8 111, .int .u8 116] : List Value) = rootB.map byV := rfl
  have r4' : RdC 1 q4 3 s3 (rootB.map byV) := r4
  have xr : MkR q4 0 p := by
    obtain ⟨cells, e, b, h0⟩ := x.base
    exact ⟨cells, e, b.mv m (by simp), h0⟩
  refine loopW_rule (fun st h' => ∃ (i : Nat) (s' : Sl) (q : GH), i ≤ 32 ∧ st = (s', (i : Int)) ∧ h' = q.h ∧ Mv [1, 2, 3, 4] g.base q ∧ BlkC q 1 pg ⟨ShTag.enc game⟩ T.api_Tag ∧ BlkC q 2 t (Array.replicate 32 (.int .u8 0)) T.api_Tag ∧ MkR q 0 p ∧
      ((i = 0 ∧ s' = s3 ∧ RdC 1 q 3 s3 (rootB.map byV)) ∨ (0 < i ∧ OwnC T.uint8 1 q 4 s' ((rootB ++ game.take i).map byV)))) (fun st => 32 - st.2.toNat)
    ⟨0, s3, q4, by omega, rfl, rfl, m, b1, b2, xr, .inl ⟨rfl, rfl, r4'⟩⟩ ?_
  clear m b1 b2 xr
  rintro X _ _ ⟨i, s', q, hi, rfl, rfl, m, b1, b2, xr, hs⟩ hX
  dsimp only
  by_cases hlt : i < 32
  · rw [if_pos (by simp; omega)]
    refine idxArr_N zU8 (by omega) ?_
    rw [Nat.zero_add, loadK_C b1]
    have hgi : i < game.length := by omega
    refine ⟨game[i], by rw [encTag]; simp [Kd.inj, hgi], ?_⟩
    refine newSl_C q 3 rfl fun s5 q5 m5 o5 hn5 hc5 => ?_
    replace m := m.step m5 (by simp)
    replace b1 := b1.mv m5 (by simp)
    replace b2 := b2.mv m5 (by simp)
    replace xr := xr.mv m5 (by simp)
    have e5 : (rootB ++ game.take i).map byV ++ [Value.int .u8 game[i]] = (rootB ++ game.take (i + 1)).map byV := by
      rw [List.take_succ_eq_append_getElem hgi]
      simp only [List.map_append, List.map_cons, List.map_nil, List.append_assoc]
    rcases hs with ⟨rfl, rfl, r⟩ | ⟨h0, o⟩
    · have hsn := r.len
      simp only [List.length_map] at hsn
      have hrl : rootB.length = 4 := rfl
      refine appendNew_C (e := T.uint8) (e2 := T.uint8) (sz := 1) (by_ := 1) (z := .int .u8 0) (by kernel_rfl) (by kernel_rfl) (by kernel_rfl) rfl (by omega) 4 (r.mv m5 (by simp)).rd o5.rd.rd (by omega) (by omega) fun s6 q6 m6 o6 hn6 => ?_
      rw [wrapSucc (by omega)]
      refine hX _ _ ⟨0 + 1, s6, q6, by omega, rfl, rfl, m.step m6 (by simp), b1.mv m6 (by simp), b2.mv m6 (by simp), xr.mv m6 (by simp), .inr ⟨by omega, ?_⟩⟩ (by simp)
      rw [← e5]
      simpa using o6
    · have hsn := o.len
      simp only [List.length_map, List.length_append, List.length_take] at hsn
      have hrl : rootB.length = 4 := rfl
      refine append_C (e := T.uint8) (e2 := T.uint8) (sz := 1) (by_ := 1) (z := .int .u8 0) (by kernel_rfl) (by kernel_rfl) (by kernel_rfl) rfl (by omega) (o.mv m5 (by simp)) o5.rd.rd (by intro v hv; simp at hv; subst hv; rfl) (by omega) fun s6 q6 m6 o6 hn6 _ => ?_
      rw [wrapSucc (by omega)]
      refine hX _ _ ⟨i + 1, s6, q6, by omega, rfl, rfl, m.step m6 (by simp), b1.mv m6 (by simp), b2.mv m6 (by simp), xr.mv m6 (by simp), .inr ⟨by omega, ?_⟩⟩ (by simp; omega)
      rw [← e5]
      exact o6
  · rw [if_neg (by simp; omega)]
    have hi' : i = 32 := by omega
    subst hi'
    rcases hs with ⟨h, _⟩ | ⟨_, o⟩
    · cases h
    rw [List.take_of_length_le (by omega)] at o
    refine refSumR_spec xr s' (rootB ++ game) o.rd (by simp [rootB, hgl]) (fun y hy => by
      rcases List.mem_append.1 hy with hy | hy
      · have : ∀ y ∈ rootB, isByte y := by simp [rootB, isByte]
        exact this y hy
      · exact (okTagB hg).2 y hy) fun q6 m6 => ⟨_, rfl, ?_⟩
    replace m := m.step m6 (by simp)
    refine result_C (n := 32) szTag dTag (b2.mv m6 (by simp)) (by simp) (by simp [shaB_length]) (fun v hv => oneBy _ v hv) fun q7 m7 => ?_
    replace m := m.step m7 (by simp)
    exact H (g.via q7 fun _ => 0) (m.via (by simp) _)

theorem ref20Tag_spec {g : GH} {c p : Nat} (x : MkR g c p) (e : EntryT) (ok : ShEntry.ok e) {R : Value → Heap → Prop} (H : ∀ g' : GH, Mv [] g g' → R (.agg (tagA (tag20 e))) g'.h) :
    HC Tryz.prog F.ref20_Tag #[.pointer (some ⟨p, 0, none⟩), .agg ⟨ShEntry.enc e⟩] R g.h := by
  refine ref20_Tag.calls ?_
  unfold ref20_Tag.body
  have m := Mv.refl [1, 2, 3, 4, 5] g.base
  have xr := x.base
  refine new_C g.base 1 fun pe q1 m1 b1 => ?_
  replace m := m.step m1 (by simp)
  replace xr := xr.mv m1 (by simp)
  rw [zTag]
  refine new_C q1 2 fun t q2 m2 b2 => ?_
  replace m := m.step m2 (by simp)
  replace xr := xr.mv m2 (by simp)
  replace b1 := b1.mv m2 (by simp)
  refine loadEntryAt (blkCells b1) ok ?_
  -- behind the bytes
  have tail : ∀ (q : GH) (s : Sl), Mv [1, 2, 3, 4, 5] g.base q → MkR q 0 p → BlkC q 2 t (Array.replicate 32 (.int .u8 0)) T.api_Tag → RdC 1 q 5 s ((entryBytes e).map byV) →
      newSlK q.h 4 #[(.int .u8 108), (.int .u8 105), (.int .u8 110), (.int .u8 107)] T.uint8 (fun (v_5 : Sl) (h : Heap) =>
      opK Tryz.prog .slice (convert T.sl_uint8 T.sl_uint8 (.slice v_5.a v_5.n v_5.c)) (fun (v_6 : Sl) (h : Heap) =>
      opK Tryz.prog .slice (Builtin.append_ #[T.sl_uint8, T.sl_uint8] T.sl_uint8 #[(.slice v_6.a v_6.n v_6.c), (.slice s.a s.n s.c)]) (fun (v_7 : Sl) (h : Heap) =>
      callK Tryz.prog .agg F.ref04_Maker_Sum #[(.pointer (some ⟨p, 0, none⟩)), (.slice v_7.a v_7.n v_7.c)] (fun (v_8 : Array Value) (h : Heap) =>
      storeAggK (sizeOfT Tryz.prog T.api_Tag) h (some ⟨t, 0, none⟩) v_8 (fun (h : Heap) =>
      quietK Tryz.prog .agg (Instr.loadAt T.api_Tag (.pointer (some ⟨t, 0, none⟩))) (fun (r_9 : Array Value) =>
      R (.agg r_9) h) h)) h) h) h) := by
    intro q s m xr b2 rs
    refine newSl_C q 3 rfl fun s3 q3 m3 o3 hn3 hc3 => ?_
    replace m := m.step m3 (by simp)
    replace xr := xr.mv m3 (by simp)
    replace b2 := b2.mv m3 (by simp)
    replace rs := rs.mv m3 (by simp)
    refine convRd (e := T.uint8) (by kernel_rfl) (by kernel_rfl) o3 (by simp) fun q4 m4 r4 k4 => ?_
    replace m := m.step m4 (by simp)
    replace xr := xr.mv m4 (by simp)
    replace b2 := b2.mv m4 (by simp)
    replace rs := rs.mv m4 (by simp)
    have hlen := entryBytes_len ok
    have hsn := rs.len
    rw [List.length_map] at hsn
    have fin : ∀ (q : GH) (s : Sl) (k : Nat), Mv [1, 2, 3, 4, 5] g.base q → MkR q 0 p → BlkC q 2 t (Array.replicate 32 (.int .u8 0)) T.api_Tag → RdC 1 q k s ((linkB ++ entryBytes e).map byV) →
        callK Tryz.prog .agg F.ref04_Maker_Sum #[(.pointer (some ⟨p, 0, none⟩)), (.slice s.a s.n s.c)] (fun (v_8 : Array Value) (h : Heap) =>
        storeAggK (sizeOfT Tryz.prog T.api_Tag) h (some ⟨t, 0, none⟩) v_8 (fun (h : Heap) =>
        quietK Tryz.prog .agg (Instr.loadAt T.api_Tag (.pointer (some ⟨t, 0, none⟩))) (fun (r_9 : Array Value) =>
        R (.agg r_9) h) h)) q.h := by
      intro q s k m xr b2 rs
      refine refSumR_spec xr s _ rs (by simp [linkB]; omega) (fun y hy => by
        rcases List.mem_append.1 hy with hy | hy
        · have : ∀ y ∈ linkB, isByte y := by simp [linkB, isByte]
          exact this y hy
        · exact entryBytes_byte ok y hy) fun q6 m6 => ⟨_, rfl, ?_⟩
      replace m := m.step m6 (by simp)
      refine result_C (n := 32) szTag dTag (b2.mv m6 (by simp)) (by simp) (by simp [shaB_length]) (fun v hv => oneBy _ v hv) fun q7 m7 => ?_
      replace m := m.step m7 (by simp)
      exact H (g.via q7 fun _ => 0) (m.via (by simp) _)
    by_cases h0 : entryBytes e = []
    · have hn0 : s.n = 0 := by rw [hsn, h0]; rfl
      refine appendNil_rule (e := T.uint8) (e2 := T.uint8) (sz := 1) (by kernel_rfl) (by kernel_rfl) (by kernel_rfl) (by have := rs.rd; rw [h0] at this; exact this) hn0 (by omega) ?_
      refine fin q4 s3 3 m xr b2 ?_
      rw [h0, List.append_nil]
      exact r4
    · have hpos : 0 < (entryBytes e).length := List.length_pos_iff.2 h0
      refine appendNew_C (e := T.uint8) (e2 := T.uint8) (sz := 1) (by_ := 1) (z := .int .u8 0) (by kernel_rfl) (by kernel_rfl) (by kernel_rfl) rfl (by omega) 4 r4.rd rs.rd (by omega) (by omega) fun s6 q6 m6 o6 hn6 => ?_
      refine fin q6 s6 4 (m.step m6 (by simp)) (xr.mv m6 (by simp)) (b2.mv m6 (by simp)) ?_
      have := o6.rd
      rw [List.map_append]
      exact this
  refine ref18PutEntry_spec q2 5 e ok (fun hg s q3 m3 r3 => ⟨(_, _), rfl, ?_⟩) (fun hg q3 m3 => ⟨(⟨none, 0, 0⟩, 2), rfl, ?_⟩)
  · refine tail q3 s (m.step m3 (by simp)) (xr.mv m3 (by simp)) (b2.mv m3 (by simp)) ?_
    unfold entryBytes bytesIf
    rw [if_pos hg]
    exact r3
  · refine tail q3 ⟨none, 0, 0⟩ (m.step m3 (by simp)) (xr.mv m3 (by simp)) (b2.mv m3 (by simp)) ?_
    unfold entryBytes bytesIf
    rw [if_neg (by simp [hg])]
    exact RdC.nil _ _ _ _ _

/-! ### A chain in memory -/

abbrev chn20A (pm : Nat) (game : List Int) (se : Sl) : Array Value := ⟨[.pointer (some ⟨pm, 0, none⟩)] ++ (ShTag.enc game ++ [slV se])⟩
def Chn20 (g : GH) (kc ke p pm : Nat) (game : List Int) (es : List EntryT) : Prop :=
  ∃ se : Sl, BlkC g kc p (chn20A pm game se) T.zugzwangref20_Chain ∧ OwnF T.api_Entry ShEntry g ke se es ∧ ShTag.ok game
theorem Chn20.mv {K : List Nat} {g g' : GH} {kc ke p pm : Nat} {game : List Int} {es : List EntryT} (x : Chn20 g kc ke p pm game es) (m : Mv K g g') (h1 : kc ∉ K) (h2 : ke ∉ K) : Chn20 g' kc ke p pm game es := by
  obtain ⟨se, b, o, h⟩ := x
  exact ⟨se, b.mv m h1, o.mv m h2, h⟩
theorem Chn20.base {g : GH} {kc ke p pm : Nat} {game : List Int} {es : List EntryT} (x : Chn20 g kc ke p pm game es) : Chn20 g.base 0 0 p pm game es := by
  obtain ⟨se, b, o, h⟩ := x
  exact ⟨se, b.base, o.base, h⟩
theorem chn20_size {pm : Nat} {game : List Int} (h : ShTag.ok game) (se : Sl) : (chn20A pm game se).size = 34 := by simp [lenTag h]
theorem chn20_33 {pm : Nat} {game : List Int} (h : ShTag.ok game) (se : Sl) : (chn20A pm game se)[33]? = some (slV se) := by
  simp only [List.getElem?_toArray]
  rw [List.getElem?_append_right (by simp), List.getElem?_append_right (by simp [lenTag h])]
  simp [lenTag h]
theorem chn20Set {pm : Nat} {game : List Int} (h : ShTag.ok game) (se v : Sl) : (chn20A pm game se).setIfInBounds 33 (slV v) = chn20A pm game v := by
  rw [List.setIfInBounds_toArray, List.set_append_right _ _ (by simp), List.set_append_right _ _ (by simp [lenTag h])]
  simp [lenTag h]
theorem chn20Game {g : GH} {kc p pm : Nat} {game : List Int} {se : Sl} {e : TypeId} (b : BlkC g kc p (chn20A pm game se) e) : CellsC g kc p (0 + 1) (ShTag.enc game) := cellsFst (cellsSnd (n := 1) (blkCells b) rfl)

theorem ref20Head_spec {g : GH} {kc ke c p pm : Nat} {game : List Int} {es : List EntryT} (x : Chn20 g kc ke p pm game es) (xr : MkR g c pm) (hl : es.length ≤ 1000000) {R : Value → Heap → Prop} (H : ∀ g' : GH, Mv [] g g' → R (.agg (tagA (head20 game es))) g'.h) :
    HC Tryz.prog F.ref20_Chain_Head #[.pointer (some ⟨p, 0, none⟩)] R g.h := by
  refine ref20_Chain_Head.calls ?_
  unfold ref20_Chain_Head.body
  have m := Mv.refl [1] g.base
  replace xr := xr.base
  replace x := x.base
  rw [zTag]
  refine new_C g.base 1 fun t q1 m1 b1 => ?_
  replace m := m.step m1 (by simp)
  replace xr := xr.mv m1 (by simp)
  obtain ⟨se, b, o, hg⟩ := x.mv m1 (by simp) (by simp)
  have fin : ∀ (q : GH) (u : List Int), Mv [] q1 q → u.length = 32 → u = head20 game es →
      storeAggK (sizeOfT Tryz.prog T.api_Tag) q.h (some ⟨t, 0, none⟩) (tagA u) (fun (h : Heap) => quietK Tryz.prog .agg (Instr.loadAt T.api_Tag (.pointer (some ⟨t, 0, none⟩))) (fun (r : Array Value) => R (.agg r) h) h) := by
    intro q u mq hu he
    refine result_C (n := 32) szTag dTag (b1.mv mq (by simp)) (by simp) (by simp [hu]) (fun v hv => oneBy _ v hv) fun q7 m7 => ?_
    rw [he]
    exact H (g.via q7 fun _ => 0) (((m.step mq (by simp)).step m7 (by simp)).via (by simp) _)
  have hn := o.len
  simp only [derefK_some, fldK_some]
  rw [loadK_C b]
  refine ⟨se, by rw [Nat.zero_add]; exact chn20_33 hg se, ?_⟩
  by_cases h0 : es.length = 0
  · rw [if_pos (by simp [hn, h0]), loadK_C b]
    refine ⟨some ⟨pm, 0, none⟩, rfl, ?_⟩
    refine loadTagAt (chn20Game b) hg ?_
    refine ref20Root_spec xr game hg fun q2 m2 => ⟨_, rfl, ?_⟩
    exact fin q2 _ m2 (shaB_length _) (by unfold head20; rw [if_pos h0])
  · rw [if_neg (by simp [hn]; intro h; exact h0 (by rw [h]; rfl)), loadK_C b]
    refine ⟨some ⟨pm, 0, none⟩, rfl, ?_⟩
    rw [loadK_C b]
    refine ⟨se, by rw [Nat.zero_add]; exact chn20_33 hg se, ?_⟩
    rw [loadK_C b]
    refine ⟨se, by rw [Nat.zero_add]; exact chn20_33 hg se, ?_⟩
    rw [show IntKind.i64.wrap ((se.n : Int) - 1) = ((es.length - 1 : Nat) : Int) from by rw [wrapI64 (by omega) (by omega)]; omega]
    have hlt : es.length - 1 < es.length := by omega
    refine (o.slc rfl (by omega)).idxF rfl szF_Entry (by decide) hlt fun b2 o2 c2 ok2 l2 => loadF c2 szF_Entry (by decide) l2 ?_
    refine ref20Tag_spec xr _ ok2 fun q2 m2 => ⟨_, rfl, ?_⟩
    refine fin q2 _ m2 (shaB_length _) ?_
    unfold head20
    rw [if_neg h0, List.getD_eq_getElem?_getD, List.getElem?_eq_getElem hlt]
    rfl

theorem resE {g : GH} {c p : Nat} {cells : Array Value} {e : TypeId} (hb : BlkC g c p cells e) (hn : cells.size = 135) {x : EntryT} (ok : ShEntry.ok x) {K : Array Value → Heap → Prop} (H : ∀ g' : GH, Mv [c] g g' → K ⟨ShEntry.enc x⟩ g'.h) :
    storeAggK (sizeOfT Tryz.prog T.api_Entry) g.h (some ⟨p, 0, none⟩) ⟨ShEntry.enc x⟩ (fun h => quietK Tryz.prog .agg (Instr.loadAt T.api_Entry (.pointer (some ⟨p, 0, none⟩))) (fun r => K r h) h) :=
  result_C (n := 135) szEntry dEntry hb hn (show (ShEntry.enc x).length = 135 from lenEntry ok) (fun v hv => Sh.enc_one (s := ShEntry) rfl v hv) H

theorem ref20Next_spec {g : GH} {kc ke c p pm : Nat} {game : List Int} {es : List EntryT} (x : Chn20 g kc ke p pm game es) (xr : MkR g c pm) (hl : es.length ≤ 1000000) (b : BodyT) (okb : ShBody.ok b) {R : Value → Heap → Prop}
    (H : ∀ g' : GH, Mv [] g g' → R (.tuple #[.agg ⟨ShEntry.enc (next20 game es b).1⟩, .int .i64 (next20 game es b).2]) g'.h) :
    HC Tryz.prog F.ref20_Chain_Next #[.pointer (some ⟨p, 0, none⟩), .agg ⟨ShBody.enc b⟩] R g.h := by
  refine ref20_Chain_Next.calls ?_
  unfold ref20_Chain_Next.body
  have m := Mv.refl [1, 2] g.base
  replace xr := xr.base
  replace x := x.base
  refine new_C g.base 1 fun pb q1 m1 bb => ?_
  replace m := m.step m1 (by simp)
  replace xr := xr.mv m1 (by simp)
  replace x := x.mv m1 (by simp) (by simp)
  rw [zEntry]
  refine new_C q1 2 fun pe q2 m2 be => ?_
  replace m := m.step m2 (by simp)
  replace xr := xr.mv m2 (by simp)
  replace x := x.mv m2 (by simp) (by simp)
  replace bb := bb.mv m2 (by simp)
  refine loadBodyAt (blkCells bb) okb ?_
  refine ref18Body_spec q2 b okb fun q3 m3 => ⟨_, rfl, ?_⟩
  replace m := m.step m3 (by simp)
  replace xr := xr.mv m3 (by simp)
  replace x := x.mv m3 (by simp) (by simp)
  replace bb := bb.mv m3 (by simp)
  replace be := be.mv m3 (by simp)
  dsimp only
  by_cases hb : bodyOk b = true
  · rw [if_neg (by simp [hb])]
    obtain ⟨se, bc, oe, hg⟩ := x
    simp only [derefK_some, fldK_some]
    refine loadTagAt (chn20Game bc) hg ?_
    rw [loadK_C bc]
    refine ⟨se, by rw [Nat.zero_add]; exact chn20_33 hg se, ?_⟩
    refine loadBodyAt (blkCells bb) okb ?_
    refine ref20Head_spec ⟨se, bc, oe, hg⟩ xr hl fun q4 m4 => ⟨_, rfl, ?_⟩
    have bb1 := bb.mv m4 (by simp)
    have bc1 := bc.mv m4 (by simp)
    refine ⟨stillF (s := ShBody) (blkCells bb1) szBody (by decide) (lenBody okb), stillK_C bc1 (by rw [Nat.zero_add]; exact chn20_33 hg se), stillF (s := ShTag) (chn20Game bc1) szTag (by decide) (lenTag hg), ?_⟩
    have okh := okHead20 game es
    have okn := okNext20 hg hl okb (es := es)
    have en : next20 game es b = ((game, (es.length : Int), head20 game es, b, ()), 0) := by unfold next20; rw [if_pos hb]
    rw [en] at okn H
    dsimp only at okn H
    rw [oe.len, tagA_enc]
    refine ⟨⟨ShEntry.enc (game, (es.length : Int), head20 game es, b, ())⟩, build_Entry _ _ _ _ hg okh okb, ?_⟩
    refine resE (be.mv m4 (by simp)) (by rw [List.size_toArray, lenEntry okEntry0]) okn fun q5 m5 => ?_
    exact H (g.via q5 fun _ => 0) (((m.step m4 (by simp)).step m5 (by simp)).via (by simp) _)
  · rw [if_pos (by simpa using hb)]
    refine ⟨⟨ShEntry.enc entry0⟩, fun w => by kernel_rfl, ?_⟩
    refine resE be (by rw [List.size_toArray, lenEntry okEntry0]) okEntry0 fun q5 m5 => ?_
    have en : next20 game es b = (entry0, 2) := by unfold next20; rw [if_neg hb]
    rw [en] at H
    exact H (g.via q5 fun _ => 0) ((m.step m5 (by simp)).via (by simp) _)

/-! ### Why an entry does not fit; entries put -/

def why20 (game : List Int) (es : List EntryT) (e : EntryT) : Int :=
  if entryOk e = false then 2
  else if ¬ e.game = game then 14
  else if e.number < (es.length : Int) ∧ es.getD e.number.toNat entry0 = e then 12
  else if e.number < (es.length : Int) then 15
  else if e.number > (es.length : Int) then 11
  else if ¬ e.ahead = head20 game es then 7
  else 0

theorem entryOk_num {e : EntryT} (h : entryOk e = true) : 0 ≤ e.number ∧ e.number ≤ 4294967295 := by
  unfold entryOk at h
  simp only [Bool.and_eq_true, decide_eq_true_eq] at h
  exact ⟨h.1, h.2.1⟩

theorem neqTag_F {x y : List Int} {ox oy : Operand} (hx : ShTag.ok x) (hy : ShTag.ok y) {K : Bool → Prop} (H : K (decide (¬ x = y))) : eqK Tryz.prog (binSem .neq T.api_Tag ox oy (.agg ⟨ShTag.enc x⟩) (.agg ⟨ShTag.enc y⟩)) K :=
  neqK_flat (P := Tryz.prog) ShTag (t := T.api_Tag) (m := 10) (by decide) rfl (by kernel_rfl) (by kernel_rfl) (by kernel_rfl) (by kernel_rfl) (by kernel_rfl) hx hy fun r hr => by
    have : r = decide (¬ x = y) := by cases r <;> simp_all
    rw [this]; exact H

set_option maxHeartbeats 1000000 in
theorem ref20Why_spec {g : GH} {kc ke c p pm : Nat} {game : List Int} {es : List EntryT} (x : Chn20 g kc ke p pm game es) (xr : MkR g c pm) (hl : es.length ≤ 1000000) (e : EntryT) (oke : ShEntry.ok e) {R : Value → Heap → Prop}
    (H : ∀ g' : GH, Mv [] g g' → R (.int .i64 (why20 game es e)) g'.h) : HC Tryz.prog F.ref20_Chain_Why #[.pointer (some ⟨p, 0, none⟩), .agg ⟨ShEntry.enc e⟩] R g.h := by
  refine ref20_Chain_Why.calls ?_
  unfold ref20_Chain_Why.body
  have m := Mv.refl [1] g.base
  replace xr := xr.base
  replace x := x.base
  refine new_C g.base 1 fun pe q1 m1 be => ?_
  replace m := m.step m1 (by simp)
  replace xr := xr.mv m1 (by simp)
  replace x := x.mv m1 (by simp) (by simp)
  refine loadEntryAt (blkCells be) oke ?_
  refine ref18Entry_spec q1 e oke fun q2 m2 => ⟨_, rfl, ?_⟩
  replace m := m.step m2 (by simp)
  replace xr := xr.mv m2 (by simp)
  replace x := x.mv m2 (by simp) (by simp)
  replace be := be.mv m2 (by simp)
  have fin : ∀ (q : GH) (n : Int), Mv [1] g.base q → why20 game es e = n → R (.int .i64 n) q.h := fun q n m h => by rw [← h]; exact H (g.via q fun _ => 0) (m.via (by simp) _)
  dsimp only
  cases hg : entryOk e with
  | false => rw [if_pos (by simp)]; exact fin q2 2 m (by unfold why20; rw [if_pos hg])
  | true =>
    rw [if_neg (by simp)]
    obtain ⟨hn0, hn1⟩ := entryOk_num hg
    have ea := entryAt oke (blkCells be)
    obtain ⟨se, bc, oe, hgm⟩ := x
    have hon := oe.len
    have h33 : (chn20A pm game se)[0 + 33]? = some (slV se) := by rw [Nat.zero_add]; exact chn20_33 hgm se
    simp only [derefK_some, fldK_some]
    refine loadTagAt ea.game oke.1 ?_
    refine loadTagAt (chn20Game bc) hgm ?_
    refine neqTag_F oke.1 hgm ?_
    by_cases hgame : e.game = game
    · rw [if_neg (by simp [hgame])]
      refine joinW_intro (fun (s : Bool) h' => h' = q2.h ∧ s = decide (e.number < (es.length : Int) ∧ es.getD e.number.toNat entry0 = e)) ?_ ?_
      · intro J hJ
        refine loadK_cells ea.number (k := .int .i64) (j := 0) e.number rfl rfl ?_
        rw [loadK_C bc]
        refine ⟨se, h33, ?_⟩
        by_cases hlt : e.number < (es.length : Int)
        · have hlt' : e.number.toNat < es.length := by omega
          rw [if_pos (by simp [hon]; omega), loadK_C bc]
          refine ⟨se, h33, ?_⟩
          refine loadK_cells ea.number (k := .int .i64) (j := 0) e.number rfl rfl ?_
          have hi : e.number = ((e.number.toNat : Nat) : Int) := by omega
          rw [hi]
          refine (oe.slc rfl (by omega)).idxF rfl szF_Entry (by decide) hlt' fun b2 o2 c2 ok2 l2 => loadF c2 szF_Entry (by decide) l2 ?_
          refine loadEntryAt (blkCells be) oke ?_
          refine eqEntry_F ok2 oke ?_
          refine hJ _ _ ⟨rfl, ?_⟩
          rw [List.getD_eq_getElem?_getD, List.getElem?_eq_getElem hlt', Option.getD_some]
          simp [hlt]
        · rw [if_neg (by simp [hon]; omega)]
          exact hJ _ _ ⟨rfl, by simp [hlt]⟩
      · rintro s _ ⟨rfl, rfl⟩
        by_cases h12 : e.number < (es.length : Int) ∧ es.getD e.number.toNat entry0 = e
        · rw [if_pos (by simpa using h12)]
          exact fin q2 12 m (by unfold why20; rw [if_neg (by simp [hg]), if_neg (by simp [hgame]), if_pos h12])
        · rw [if_neg (by simpa using h12)]
          refine loadK_cells ea.number (k := .int .i64) (j := 0) e.number rfl rfl ?_
          rw [loadK_C bc]
          refine ⟨se, h33, ?_⟩
          by_cases h15 : e.number < (es.length : Int)
          · rw [if_pos (by simp [hon]; omega)]
            exact fin q2 15 m (by unfold why20; rw [if_neg (by simp [hg]), if_neg (by simp [hgame]), if_neg h12, if_pos h15])
          · rw [if_neg (by simp [hon]; omega)]
            refine loadK_cells ea.number (k := .int .i64) (j := 0) e.number rfl rfl ?_
            rw [loadK_C bc]
            refine ⟨se, h33, ?_⟩
            by_cases h11 : e.number > (es.length : Int)
            · rw [if_pos (by simp [hon]; omega)]
              exact fin q2 11 m (by unfold why20; rw [if_neg (by simp [hg]), if_neg (by simp [hgame]), if_neg h12, if_neg h15, if_pos h11])
            · rw [if_neg (by simp [hon]; omega)]
              refine loadTagAt ea.ahead oke.2.2.1 ?_
              refine ref20Head_spec ⟨se, bc, oe, hgm⟩ xr hl fun q3 m3 => ⟨_, rfl, ?_⟩
              have ea3 := entryAt oke (blkCells (be.mv m3 (by simp)))
              refine ⟨stillF (s := ShTag) ea3.ahead szTag (by decide) (lenTag oke.2.2.1), ?_⟩
              rw [tagA_enc]
              refine neqTag_F oke.2.2.1 (okHead20 _ _) ?_
              by_cases h7 : e.ahead = head20 game es
              · rw [if_neg (by simp [h7])]
                exact fin q3 0 (m.step m3 (by simp)) (by unfold why20; rw [if_neg (by simp [hg]), if_neg (by simp [hgame]), if_neg h12, if_neg h15, if_neg h11, if_neg (by simp [h7])])
              · rw [if_pos (by simp [h7])]
                exact fin q3 7 (m.step m3 (by simp)) (by unfold why20; rw [if_neg (by simp [hg]), if_neg (by simp [hgame]), if_neg h12, if_neg h15, if_neg h11, if_pos h7])
    · rw [if_pos (by simp [hgame])]
      exact fin q2 14 m (by unfold why20; rw [if_neg (by simp [hg]), if_pos hgame])

def add20 (game : List Int) : List EntryT → List EntryT → Int × List EntryT
  | es, [] => (0, es)
  | es, e :: l => if why20 game es e = 0 then add20 game (es ++ [e]) l else (why20 game es e, es)
theorem add20_length (game : List Int) : ∀ (l es : List EntryT), (add20 game es l).2.length ≤ es.length + l.length
  | [], es => by simp [add20]
  | e :: l, es => by
    rw [add20]
    split
    · have := add20_length game l (es ++ [e])
      simp only [List.length_append, List.length_cons, List.length_nil] at this ⊢
      omega
    · simp

set_option maxHeartbeats 1000000 in
theorem ref20Add_spec {g : GH} {kc ke c d p pm : Nat} {game : List Int} {es : List EntryT} (h1 : ¬ kc = ke) (h2 : ¬ c = kc) (h3 : ¬ c = ke) (h4 : ¬ d = kc) (h5 : ¬ d = ke) (x : Chn20 g kc ke p pm game es) (xr : MkR g c pm) (v : Sl) (l : List EntryT) (hv : SlC g d ShEntry v l) (hl : es.length + l.length ≤ 1000000) {R : Value → Heap → Prop}
    (H : ∀ g' : GH, Mv [kc, ke] g g' → Chn20 g' kc ke p pm game (add20 game es l).2 → R (.int .i64 (add20 game es l).1) g'.h) : HC Tryz.prog F.ref20_Chain_Add #[.pointer (some ⟨p, 0, none⟩), .slice v.a v.n v.c] R g.h := by
  refine ref20_Chain_Add.calls (l1 := v) ?_
  unfold ref20_Chain_Add.body
  have hn := hv.len
  obtain ⟨y, hy, hyn⟩ := fresh_exists g [kc, ke, c, d]
  simp only [List.mem_cons, List.mem_nil_iff, or_false, not_or] at hyn
  have hre : ∀ j ∈ [kc, ke, y], j ∈ [kc, ke] ∨ Fresh g j := by
    intro j hj
    simp only [List.mem_cons, List.mem_nil_iff, or_false] at hj
    rcases hj with rfl | rfl | rfl
    · exact .inl (by simp)
    · exact .inl (by simp)
    · exact .inr hy
  have fin : ∀ (q : GH) (n : Int) (es' : List EntryT), Mv [kc, ke, y] g q → Chn20 q kc ke p pm game es' → add20 game es l = (n, es') → R (.int .i64 n) q.h := fun q n es' m x he => by
    have := H (g.via q id) (m.re id hre) (by
      rw [he]
      obtain ⟨se, b, o, hg⟩ := x
      exact ⟨se, b.re (φ := id) m (.inl rfl), o.re (φ := id) m (.inl rfl), hg⟩)
    rw [he] at this
    exact this
  refine loopW_rule (fun st h' => ∃ (i : Nat) (es' : List EntryT) (q : GH), i ≤ l.length ∧ st = (i : Int) ∧ h' = q.h ∧ Mv [kc, ke, y] g q ∧ Chn20 q kc ke p pm game es' ∧ MkR q c pm ∧ es'.length = es.length + i ∧ add20 game es l = add20 game es' (l.drop i)) (fun st => l.length - st.toNat)
    ⟨0, es, g, by omega, rfl, rfl, Mv.refl _ _, x, xr, by omega, by simp⟩ ?_
  rintro X _ _ ⟨i, es', q, hi, rfl, rfl, m, x, xr, hlen, he⟩ hX
  by_cases hlt : i < l.length
  · rw [if_pos (by simp [hn]; omega)]
    have hvq : SlC q d ShEntry v l := hv.mv m (by simp [h4, h5, Ne.symm hyn.2.2.2])
    have oke := (hvq.rdF rfl).2 l[i] (List.getElem_mem hlt)
    have hdrop : l.drop i = l[i] :: l.drop (i + 1) := (List.drop_eq_getElem_cons hlt)
    have hstep : add20 game es' (l.drop i) = if why20 game es' l[i] = 0 then add20 game (es' ++ [l[i]]) (l.drop (i + 1)) else (why20 game es' l[i], es') := by rw [hdrop, add20]
    refine hvq.idxF rfl szF_Entry (by decide) hlt fun b2 o2 c2 ok2 l2 => loadF c2 szF_Entry (by decide) l2 ?_
    refine ref20Why_spec x xr (by omega) l[i] oke fun q3 m3 => ⟨_, rfl, ?_⟩
    replace m := m.step m3 (by simp)
    replace x := x.mv m3 (by simp) (by simp)
    replace xr := xr.mv m3 (by simp)
    dsimp only
    by_cases hw : why20 game es' l[i] = 0
    · rw [if_neg (by simp [hw])]
      rw [if_pos hw] at hstep
      obtain ⟨se, bc, oe, hgm⟩ := x
      have h33 : (chn20A pm game se)[0 + 33]? = some (slV se) := by rw [Nat.zero_add]; exact chn20_33 hgm se
      simp only [derefK_some, fldK_some]
      have hv3 : SlC q3 d ShEntry v l := hv.mv m (by simp [h4, h5, Ne.symm hyn.2.2.2])
      refine hv3.idxF rfl szF_Entry (by decide) hlt fun b4 o4 c4 ok4 l4 => ?_
      rw [loadK_C bc]
      refine ⟨se, h33, ?_⟩
      refine loadF c4 szF_Entry (by decide) l4 ?_
      refine mkEntry_C q3 y ok4 fun s5 q5 m5 o5 _ => ?_
      replace m := m.step m5 (by simp)
      have hl5 := o5.len
      have hoe := oe.len
      refine appendEntries_C (oe.mv m5 (by simp)) (o5.slc rfl (by simp)) (by simp at hl5; omega) fun s6 q6 m6 o6 => ?_
      replace m := m.step m6 (by simp)
      refine store_C ((bc.mv m5 (by simp)).mv m6 (by simp [h1])) (by rw [chn20_size hgm]; omega) rfl fun q7 m7 b7 => ?_
      replace m := m.step m7 (by simp)
      rw [wrapSucc (by omega)]
      refine hX _ _ ⟨i + 1, es' ++ [l[i]], q7, by omega, rfl, rfl, m, ⟨s6, ?_, o6.mv m7 (by simp [Ne.symm h1]), hgm⟩, ((xr.mv m5 (by simp)).mv m6 (by simp [h3])).mv m7 (by simp [h2]), by simp; omega, by rw [he, hstep]⟩ (by simp; omega)
      rw [Nat.zero_add] at b7
      have := chn20Set (pm := pm) hgm se s6
      unfold slV at this
      rw [this] at b7
      exact b7
    · rw [if_pos (by simpa using hw)]
      rw [if_neg hw] at hstep
      exact fin q3 _ es' m x (by rw [he, hstep])
  · rw [if_neg (by simp [hn]; omega)]
    have hi' : i = l.length := by omega
    subst hi'
    exact fin q 0 es' m x (by rw [he, List.drop_length, add20])

end Go.Proofs.YtobdneijofchkaaGreat
