/-
  What was put is read again, cut or not: in plain Lean.
-/
import Derived.Test.YtejpfoccooodbaaKDeed17
set_option linter.unusedSimpArgs false
set_option linter.unusedVariables false
namespace Go.Proofs.Ytejpfoccooodbaa
open Go Go.Ev

/-! ### What is put -/

def fieldsD (d : Deed17) : List Int := if d.what % 4 = 0 then d.nums.flatMap oneB else if d.what % 4 = 1 then d.nums.flatMap fourB else if d.what % 4 = 2 then d.tags.flatMap tagB else d.runs.flatMap runB
def goodD (d : Deed17) : Prop := if d.what % 4 = 0 then ∀ x ∈ d.nums, within 255 x = true else if d.what % 4 = 1 then ∀ x ∈ d.nums, within 4294967295 x = true else True
structure okD (d : Deed17) : Prop where
  tags : ∀ t ∈ d.tags, t.length = 32 ∧ ∀ x ∈ t, isByte x
  runs : ∀ r ∈ d.runs, ∀ x ∈ r, isByte x

theorem SlC.elem {g : GH} {c : Nat} {s : Sh} {v : Sl} {xs : List s.T} (r : SlC g c s v xs) {x : s.T} (hx : x ∈ xs) : ∃ cs, LayC g c s x cs := by
  obtain ⟨v', css, h, h1, h2, h3, h4, rd, l⟩ := r
  obtain ⟨i, hi, rfl⟩ := List.mem_iff_getElem.1 hx
  exact ⟨_, l i _ _ (List.getElem?_eq_getElem hi) (List.getElem?_eq_getElem (show i < css.length by omega))⟩
theorem LayC.okD {g : GH} {c : Nat} {d : Deed17} {cs : List Value} (l : LayC g c ShDeed17 d cs) : okD d := by
  obtain ⟨vn, vt, vr, rfl, hvn, hvt, hvr, _⟩ := LayC.deed17 l
  refine ⟨fun t ht => ?_, fun r hr => hvr.rows.2.1 r hr⟩
  obtain ⟨cs, lt⟩ := SlC.elem hvt ht
  have h := (LayC.enc (s := ShTag) rfl lt).2
  exact ⟨h.1, fun x hx => h.2 x hx⟩

theorem putAll_res {α : Type} {may : α → Bool} {of : α → List Int} : ∀ (xs : List α) (out : List Int), out.length + (xs.flatMap of).length ≤ 65536 →
    ((∀ x ∈ xs, may x = true) ∧ putAll may of (0, out) xs = (0, out ++ xs.flatMap of)) ∨ ∃ out', putAll may of (0, out) xs = (2, out')
  | [], out, _ => .inl ⟨by simp, by simp [putAll]⟩
  | x :: xs, out, h => by
    rw [List.flatMap_cons, List.length_append] at h
    rw [putAll_cons]
    cases hm : may x with
    | false =>
      right
      have : putStep may of (0, out) x = (2, out) := by simp [putStep, hm]
      rw [this, putAll_err (by simp)]
      exact ⟨_, rfl⟩
    | true =>
      have : putStep may of (0, out) x = (0, out ++ of x) := by simp [putStep, hm]; omega
      rw [this]
      rcases putAll_res (may := may) (of := of) xs (out ++ of x) (by rw [List.length_append]; omega) with ⟨h1, h2⟩ | h2
      · exact .inl ⟨fun y hy => (List.mem_cons.1 hy).elim (fun e => e ▸ hm) (h1 y), by rw [h2, List.flatMap_cons, List.append_assoc]⟩
      · exact .inr h2

theorem flatMap_le {α : Type} {f : α → List Int} {k : Nat} : ∀ {xs : List α}, (∀ x ∈ xs, (f x).length ≤ k) → (xs.flatMap f).length ≤ k * xs.length
  | [], _ => by simp
  | x :: xs, h => by
    have := flatMap_le (f := f) (xs := xs) fun y hy => h y (List.mem_cons_of_mem _ hy)
    have h0 := h x List.mem_cons_self
    rw [List.flatMap_cons, List.length_append, List.length_cons, Nat.mul_add]
    omega
theorem runs_len : ∀ (rs : List (List Int)), (rs.flatMap runB).length = 4 * rs.length + total rs
  | [] => by simp [total]
  | r :: rs => by
    rw [List.flatMap_cons, List.length_append, runs_len rs, List.length_cons]
    unfold total runB
    rw [List.length_append, fourB_length, List.flatten_cons, List.length_append]
    omega
theorem fieldsD_len {d : Deed17} (h : okD d) : (fieldsD d).length ≤ 4 * size17 d := by
  have hsz : size17 d = d.nums.length + 32 * d.tags.length + d.runs.length + total d.runs := rfl
  unfold fieldsD
  split
  · have := flatMap_le (f := oneB) (k := 1) (xs := d.nums) fun x _ => by simp [oneB]
    omega
  · split
    · have := flatMap_le (f := fourB) (k := 4) (xs := d.nums) fun x _ => by simp [fourB_length]
      omega
    · split
      · have := flatMap_le (f := tagB) (k := 32) (xs := d.tags) fun x hx => by unfold tagB; rw [(h.tags x hx).1]; omega
        omega
      · rw [runs_len]
        omega
theorem putD_res {d : Deed17} {out : List Int} (h : out.length + (fieldsD d).length ≤ 65536) : (goodD d ∧ putD (0, out) d = (0, out ++ fieldsD d)) ∨ ∃ out', putD (0, out) d = (2, out') := by
  unfold putD goodD
  unfold fieldsD at h ⊢
  split
  · rename_i hw
    rw [if_pos hw] at h
    exact putAll_res _ _ h
  · rename_i hw
    rw [if_neg hw] at h
    split
    · rename_i hw
      rw [if_pos hw] at h
      exact putAll_res _ _ h
    · rename_i hw
      rw [if_neg hw] at h
      split
      · rename_i hw
        rw [if_pos hw] at h
        rcases putAll_res (may := yes) d.tags out h with h | h
        · exact .inl ⟨trivial, h.2⟩
        · exact .inr h
      · rename_i hw
        rw [if_neg hw] at h
        rcases putAll_res (may := yes) d.runs out h with h | h
        · exact .inl ⟨trivial, h.2⟩
        · exact .inr h

/-! ### What is read -/

/-- Of bytes one reads what stands in others, as far as these go; if b, one may find none. -/
def Agree (b : Prop) (bs out : List Int) : Prop := ∀ pos n, pos + n ≤ out.length → (b ∧ (nextR bs (false, pos) n).2.1 = true) ∨ nextR bs (false, pos) n = ((out.drop pos).take n, (false, pos + n))
theorem agree_full (out rest : List Int) : Agree False (out ++ rest) out := fun pos n h => .inr (by
  unfold nextR
  rw [if_neg (by simp), if_pos (by simp; omega)]
  dsimp only
  rw [List.drop_append_of_le_length (by omega), List.take_append_of_le_length (by simp; omega)])
theorem agree_cut (out : List Int) (k : Nat) : Agree True (out.take k) out := fun pos n h => by
  unfold nextR
  rw [if_neg (by simp)]
  dsimp only
  split
  · rename_i hn
    right
    rw [List.length_take] at hn
    rw [List.drop_take, List.take_take, Nat.min_eq_left (by omega)]
  · exact .inl ⟨trivial, rfl⟩

/-- A reader of fields. -/
def FieldR {α : Type} (b : Prop) (out : List Int) (rd : Bool × Nat → α × Bool × Nat) (of : α → List Int) (ok : α → Prop) : Prop :=
  (∀ st, st.1 = true → (rd st).2.1 = true) ∧ ∀ pos x rest, ok x → out.drop pos = of x ++ rest → of x ≠ [] → (b ∧ (rd (false, pos)).2.1 = true) ∨ rd (false, pos) = (x, (false, pos + (of x).length))

theorem drop_len {out fs rest : List Int} {pos : Nat} (h : out.drop pos = fs ++ rest) (hne : fs ≠ []) : pos + fs.length ≤ out.length := by
  have := congrArg List.length h
  have hp : 0 < fs.length := List.length_pos_iff.2 hne
  rw [List.length_drop, List.length_append] at this
  omega
theorem drop_take {out fs rest : List Int} {pos : Nat} (h : out.drop pos = fs ++ rest) : (out.drop pos).take fs.length = fs := by rw [h, List.take_left]
theorem next_bad {bs : List Int} {st : Bool × Nat} {n : Nat} (h : st.1 = true) : (nextR bs st n).2.1 = true := by rw [nextR_bad h]; exact h

theorem field_byte {b : Prop} {bs out : List Int} (h : Agree b bs out) : FieldR b out (byteR bs) oneB (fun x => within 255 x = true) := by
  refine ⟨fun st hs => next_bad hs, fun pos x rest hx hd hne => ?_⟩
  have hb : isByte x := by unfold within at hx; unfold isByte; simpa using hx
  have h1 := drop_len hd hne
  have h2 := drop_take hd
  rw [oneB_eq hb] at h1 h2 ⊢
  rcases h pos 1 h1 with h | h
  · exact .inl h
  · right
    unfold byteR
    rw [h]
    dsimp only
    rw [show 1 = [x].length from rfl, h2]
    simp [numOf]
theorem field_num {b : Prop} {bs out : List Int} (h : Agree b bs out) : FieldR b out (numR bs) fourB (fun x => within 4294967295 x = true) := by
  refine ⟨fun st hs => next_bad hs, fun pos x rest hx hd hne => ?_⟩
  have hb : 0 ≤ x ∧ x ≤ 4294967295 := by unfold within at hx; simpa using hx
  have h1 := drop_len hd hne
  have h2 := drop_take hd
  rw [fourB_length] at h1 h2 ⊢
  rcases h pos 4 h1 with h | h
  · exact .inl h
  · right
    unfold numR
    rw [h]
    dsimp only
    rw [h2, numOf_fourB (by omega) (by omega)]
theorem field_tag {b : Prop} {bs out : List Int} (h : Agree b bs out) : FieldR b out (tagR bs) tagB (fun x => x.length = 32) := by
  refine ⟨fun st hs => next_bad hs, fun pos x rest hx hd hne => ?_⟩
  have h1 := drop_len hd hne
  have h2 := drop_take hd
  unfold tagB at h1 h2 ⊢
  rw [hx] at h1 h2 ⊢
  rcases h pos 32 h1 with h | h
  · exact .inl h
  · right
    unfold tagR
    rw [h]
    dsimp only
    rw [h2, padTag_eq hx]
theorem run_bad {bs : List Int} {st : Bool × Nat} (h : st.1 = true) : (runR bs st).2.1 = true := by
  unfold runR
  dsimp only
  have h1 : (numR bs st).2.1 = true := next_bad h
  have h2 : (nextR bs (numR bs st).2 (numR bs st).1.toNat).2.1 = true := next_bad h1
  rw [if_pos h2]
theorem field_run {b : Prop} {bs out : List Int} (h : Agree b bs out) : FieldR b out (runR bs) runB (fun x => x.length < 4294967296) := by
  refine ⟨fun st hs => run_bad hs, fun pos x rest hx hd hne => ?_⟩
  have h1 := drop_len hd hne
  unfold runB at hd h1
  have h2 : (out.drop pos).take 4 = fourB (x.length : Nat) := by rw [hd, List.append_assoc, ← fourB_length (x.length : Nat), List.take_left]
  have h3 : (out.drop (pos + 4)).take x.length = x := by
    rw [← List.drop_drop, hd, List.append_assoc]
    have : List.drop 4 (fourB (x.length : Nat) ++ (x ++ rest)) = x ++ rest := by rw [← fourB_length (x.length : Nat), List.drop_left]
    rw [this, List.take_left]
  rw [List.length_append, fourB_length] at h1
  rcases h pos 4 (by omega) with hA | hA
  · left
    refine ⟨hA.1, ?_⟩
    unfold runR
    dsimp only
    have h4 : (nextR bs (numR bs (false, pos)).2 (numR bs (false, pos)).1.toNat).2.1 = true := next_bad hA.2
    rw [if_pos h4]
  · have e1 : numR bs (false, pos) = (((x.length : Nat) : Int), (false, pos + 4)) := by
      unfold numR
      rw [hA]
      dsimp only
      rw [h2, numOf_fourB (by omega) (by omega)]
    unfold runR
    rw [e1]
    dsimp only
    rw [Int.toNat_natCast]
    rcases h (pos + 4) x.length (by omega) with hB | hB
    · left
      refine ⟨hB.1, ?_⟩
      rw [if_pos hB.2]
    · right
      rw [hB]
      dsimp only
      rw [if_neg (by simp), h3]
      unfold runB
      rw [List.length_append, fourB_length, Nat.add_assoc]

theorem backL_bad {α : Type} [DecidableEq α] {b : Prop} {out : List Int} {rd : Bool × Nat → α × Bool × Nat} {of : α → List Int} {ok : α → Prop} (h : FieldR b out rd of ok) : ∀ (xs : List α) (st : Bool × Nat), st.1 = true → (backL rd st xs).2.1 = true
  | [], st, hs => hs
  | x :: xs, st, hs => by
    rw [backL]
    split
    · exact backL_bad h xs _ (h.1 st hs)
    · exact h.1 st hs
theorem backL_ok {α : Type} [DecidableEq α] {b : Prop} {out : List Int} {rd : Bool × Nat → α × Bool × Nat} {of : α → List Int} {ok : α → Prop} (h : FieldR b out rd of ok) : ∀ (xs : List α) (pos : Nat) (rest : List Int), (∀ x ∈ xs, ok x ∧ of x ≠ []) → out.drop pos = xs.flatMap of ++ rest →
    (b ∧ (backL rd (false, pos) xs).2.1 = true) ∨ backL rd (false, pos) xs = (true, (false, pos + (xs.flatMap of).length))
  | [], pos, rest, _, _ => .inr (by simp [backL])
  | x :: xs, pos, rest, hx, hd => by
    obtain ⟨h1, h2⟩ := hx x List.mem_cons_self
    rw [List.flatMap_cons, List.append_assoc] at hd
    rw [backL]
    rcases h.2 pos x _ h1 hd h2 with ⟨hb, hr⟩ | hr
    · left
      refine ⟨hb, ?_⟩
      split
      · exact backL_bad h xs _ hr
      · exact hr
    · rw [hr, if_pos rfl]
      have hd2 : out.drop (pos + (of x).length) = xs.flatMap of ++ rest := by rw [← List.drop_drop, hd, List.drop_left]
      rcases backL_ok h xs _ rest (fun y hy => hx y (List.mem_cons_of_mem _ hy)) hd2 with h3 | h3
      · exact .inl h3
      · right
        rw [h3, List.flatMap_cons, List.length_append, Nat.add_assoc]

theorem backD_bad {bs : List Int} (d : Deed17) (st : Bool × Nat) (h : st.1 = true) : (backD bs st d).2.1 = true := by
  have A : Agree True (bs.take bs.length) bs := agree_cut bs bs.length
  rw [List.take_length] at A
  unfold backD
  split
  · exact backL_bad (field_byte A) _ _ h
  · split
    · exact backL_bad (field_num A) _ _ h
    · split
      · exact backL_bad (field_tag A) _ _ h
      · exact backL_bad (field_run A) _ _ h
theorem backD_ok {b : Prop} {bs out : List Int} (A : Agree b bs out) (d : Deed17) (hd : okD d) (hg : goodD d) (hs : size17 d ≤ 1000000) (pos : Nat) (rest : List Int) (h : out.drop pos = fieldsD d ++ rest) :
    (b ∧ (backD bs (false, pos) d).2.1 = true) ∨ backD bs (false, pos) d = (true, (false, pos + (fieldsD d).length)) := by
  have hsz : size17 d = d.nums.length + 32 * d.tags.length + d.runs.length + total d.runs := rfl
  unfold backD
  unfold goodD at hg
  unfold fieldsD at h ⊢
  split
  · rename_i hw
    rw [if_pos hw] at h hg
    exact backL_ok (field_byte A) _ _ rest (fun x hx => ⟨hg x hx, by simp [oneB]⟩) h
  · rename_i hw
    rw [if_neg hw] at h hg
    split
    · rename_i hw
      rw [if_pos hw] at h hg
      exact backL_ok (field_num A) _ _ rest (fun x hx => ⟨hg x hx, by simp [fourB]⟩) h
    · rename_i hw
      rw [if_neg hw] at h
      split
      · rename_i hw
        rw [if_pos hw] at h
        exact backL_ok (field_tag A) _ _ rest (fun x hx => ⟨(hd.tags x hx).1, fun e => by have := (hd.tags x hx).1; unfold tagB at e; rw [e] at this; simp at this⟩) h
      · rename_i hw
        rw [if_neg hw] at h
        refine backL_ok (field_run A) _ _ rest (fun x hx => ⟨?_, by simp [runB, fourB]⟩) h
        have : x.length ≤ total d.runs := by unfold total; rw [List.length_flatten]; exact le_of_mem_sum (List.mem_map.2 ⟨x, hx, rfl⟩)
        omega

end Go.Proofs.Ytejpfoccooodbaa
