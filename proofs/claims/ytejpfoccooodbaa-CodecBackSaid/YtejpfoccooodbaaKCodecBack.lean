/-
  What was put is read, by the same calls, and then there is the end; cut, or with a byte more behind, it is not.
-/
import Derived.Test.YtejpfoccooodbaaKBack17
set_option linter.unusedSimpArgs false
set_option linter.unusedVariables false
namespace Go.Proofs.Ytejpfoccooodbaa
open Go Go.Ev

abbrev KB17 : List Nat := [1, 2, 6, 8, 10, 12]

theorem fields_take (l : List Deed17) {i : Nat} (h : i < l.length) : (l.take (i + 1)).flatMap fieldsD = (l.take i).flatMap fieldsD ++ fieldsD l[i] := by
  rw [List.take_succ_eq_append_getElem h, List.flatMap_append]; simp
theorem fields_drop (l : List Deed17) {i : Nat} (h : i < l.length) : (l.flatMap fieldsD).drop ((l.take i).flatMap fieldsD).length = fieldsD l[i] ++ (l.drop (i + 1)).flatMap fieldsD := by
  have : l.flatMap fieldsD = (l.take i).flatMap fieldsD ++ (fieldsD l[i] ++ (l.drop (i + 1)).flatMap fieldsD) := by
    conv => lhs; rw [← List.take_append_drop i l, List.drop_eq_getElem_cons h, List.flatMap_append, List.flatMap_cons]
  rw [this, List.drop_left]
theorem fields_le : ∀ (l : List Deed17), (∀ d ∈ l, okD d) → (l.flatMap fieldsD).length ≤ 4 * (l.map size17).sum
  | [], _ => by simp
  | d :: l, h => by
    have h1 := fieldsD_len (h d List.mem_cons_self)
    have h2 := fields_le l fun x hx => h x (List.mem_cons_of_mem _ hx)
    rw [List.flatMap_cons, List.length_append, List.map_cons, List.sum_cons]
    omega
theorem fields_le_take (l : List Deed17) (i : Nat) : ((l.take i).flatMap fieldsD).length ≤ (l.flatMap fieldsD).length := by
  conv => rhs; rw [← List.take_append_drop i l, List.flatMap_append, List.length_append]
  omega
theorem size_mem {l : List Deed17} {d : Deed17} (h : d ∈ l) : size17 d ≤ (l.map size17).sum := le_of_mem_sum (List.mem_map.2 ⟨d, h, rfl⟩)
theorem fieldsD_byte {d : Deed17} (h : okD d) : ∀ x ∈ fieldsD d, isByte x := by
  intro x hx
  unfold fieldsD at hx
  split at hx
  · obtain ⟨n, _, hn⟩ := List.mem_flatMap.1 hx; exact oneB_byte n x hn
  · split at hx
    · obtain ⟨n, _, hn⟩ := List.mem_flatMap.1 hx; exact fourB_byte n x hn
    · split at hx
      · obtain ⟨n, h1, hn⟩ := List.mem_flatMap.1 hx; exact (h.tags n h1).2 x hn
      · obtain ⟨n, h1, hn⟩ := List.mem_flatMap.1 hx
        unfold runB at hn
        rcases List.mem_append.1 hn with hn | hn
        · exact fourB_byte _ x hn
        · exact h.runs n h1 x hn

theorem loadDeed {g : GH} {c b o : Nat} {cs : List Value} (hcs : CellsC g c b o cs) (hl : cs.length = 4) {K : Array Value → Prop} (hK : K ⟨cs⟩) : loadAggK (sizeOfT Try.prog T.zugzwanglaw17_Deed) g.h (some ⟨b, o, none⟩) K := by
  rw [sizeDeed17]
  refine loadAggK_cells (j := 0) hcs rfl (by decide) (by omega) ?_
  rw [List.drop_zero, List.take_of_length_le (by omega)]
  exact hK

set_option maxHeartbeats 4000000 in
theorem CodecBack_spec (g : GH) {c : Nat} (v : Sl) (l : List Deed17) (hl : SlC g c ShDeed17 v l) (at1 more : Int) (hat : -9223372036854775808 ≤ at1 ∧ at1 ≤ 9223372036854775807) (hmore : isByte more) {R : Value → Heap → Prop} (H : ∀ g' : GH, Mv [] g g' → R (.bool true) g'.h) :
    HC Try.prog F.law17_CodecBack #[.slice v.a v.n v.c, .int .i64 at1, .int .u8 more] R g.h := by
  refine law17_CodecBack.calls (l0 := v) ?_
  unfold law17_CodecBack.body
  have hn := hl.len
  have hsm := hl.small
  have m : Mv KB17 g.base g.base := Mv.refl _ _
  refine awake17_spec g.base fun q1 m1 => ⟨_, rfl, ?_⟩
  replace m := m.step m1 (by simp)
  try dsimp only
  rw [if_neg (by simp)]
  have hfin : ∀ q : GH, Mv KB17 g.base q → R (.bool true) q.h := fun q m => H (g.via q fun _ => 0) (m.via (by simp) _)
  refine size17_spec v l (hl.arg m (by simp)) fun n hsz => ⟨_, rfl, ?_⟩
  try dsimp only
  by_cases hbig : n ≤ 3000
  case neg =>
    rw [if_pos (by first | omega | (simp; omega))]
    exact hfin q1 m
  rw [if_neg (by first | omega | (simp; omega))]
  have hs := hsz hbig
  unfold sizes17 at hs
  have hok : ∀ d ∈ l, okD d := fun d hd => by
    obtain ⟨cs, lay⟩ := SlC.elem hl hd
    exact LayC.okD lay
  have hfl := fields_le l hok
  refine codecNew_spec q1 1 2 fun p q2 m2 wr => ⟨_, rfl, ?_⟩
  replace m := m.step m2 (by simp)
  refine loopW_rule (fun s h' => ∃ (i : Nat) (q : GH), i ≤ l.length ∧ s = (i : Int) ∧ h' = q.h ∧ Mv KB17 g.base q ∧ WrC q 1 2 p 0 ((l.take i).flatMap fieldsD) ∧ ∀ d ∈ l.take i, goodD d) (fun s => l.length - s.toNat)
    ⟨0, q2, by omega, rfl, rfl, m, wr, by simp⟩ ?_
  clear m wr
  rintro X _ _ ⟨i, q, hi, rfl, rfl, m, wr, hg⟩ hX
  by_cases hlt : i < l.length
  · rw [if_pos (by first | omega | (simp; omega))]
    refine (hl.arg m (by simp)).idx (sizeDeed17.trans rfl) (by decide) hlt fun b o cs hcs lay => ?_
    have hcl : cs.length = 4 := lay.length
    refine loadDeed hcs hcl ?_
    have hsd := size_mem (List.getElem_mem hlt)
    have hle := fields_le_take l (i + 1)
    rw [fields_take l hlt, List.length_append] at hle
    refine put17_spec (by decide) (by decide) (by decide) wr l[i] cs lay (by omega) fun q3 m3 wr => ⟨_, rfl, ?_⟩
    replace m := m.step m3 (by simp)
    try dsimp only
    rcases putD_res (d := l[i]) (out := (l.take i).flatMap fieldsD) (by omega) with ⟨hgd, hp⟩ | ⟨out', hp⟩
    · rw [hp] at wr ⊢
      rw [if_neg (by simp), wrapSucc (by omega)]
      refine hX _ _ ⟨i + 1, q3, by omega, rfl, rfl, m, by rw [fields_take l hlt]; exact wr, fun d hd => ?_⟩ (by simp; omega)
      rw [List.take_succ_eq_append_getElem hlt] at hd
      rcases List.mem_append.1 hd with hd | hd
      · exact hg d hd
      · simp only [List.mem_singleton] at hd; subst hd; exact hgd
    · rw [hp] at wr ⊢
      rw [if_pos (by simp)]
      refine wOut_spec 5 wr (fun he => absurd he (by simp)) (fun _ => ⟨(⟨none, 0, 0⟩, 2), rfl, ?_⟩)
      try dsimp only
      rw [if_pos (by rfl), if_pos (by rfl)]
      refine newSl_C q3 5 rfl fun s4 q4 m4 o4 hn4 hc4 => ?_
      replace m := m.step m4 (by simp)
      replace wr := wr.mv m4 (by simp) (by simp)
      refine wByte_to (by decide) (by decide) (by decide) wr s4 [1] o4.rd (by decide) (putAll_err (by simp) _) fun q5 m5 wr => ⟨_, rfl, ?_⟩
      replace m := m.step m5 (by simp)
      try dsimp only
      rw [if_pos (by rfl)]
      exact hfin q5 m
  · rw [if_neg (by first | omega | (simp; omega))]
    clear hX
    have hi' : i = l.length := by omega
    subst hi'
    rw [List.take_length] at wr hg
    generalize hout : l.flatMap fieldsD = out at wr hfl
    have hob : ∀ x ∈ out, isByte x := by
      intro x hx
      rw [← hout] at hx
      obtain ⟨d, hd, hx⟩ := List.mem_flatMap.1 hx
      exact fieldsD_byte (hok d hd) x hx
    refine wOut_spec 5 wr (fun _ s5 q5 m5 o5 => ⟨(s5, 0), rfl, ?_⟩) (fun he => absurd rfl he)
    replace m := m.step m5 (by simp)
    try dsimp only
    have hn5 := o5.len
    simp only [List.length_map] at hn5
    have hc5 := o5.cap
    rw [wrapI64 (n := (s5.n : Int) + 1) (by omega) (by omega)]
    refine Pick_spec at1 _ hat (by omega) ⟨_, rfl, ?_⟩
    obtain ⟨k, hk, hkl⟩ : ∃ k : Nat, at1 % ((s5.n : Int) + 1) = (k : Int) ∧ k ≤ out.length := ⟨(at1 % ((s5.n : Int) + 1)).toNat, by
      have := Int.emod_nonneg at1 (b := (s5.n : Int) + 1) (by omega); omega, by
      have := Int.emod_lt_of_pos at1 (b := (s5.n : Int) + 1) (by omega); omega⟩
    rw [hk]
    have hcb : ∀ x ∈ out.take k, isByte x := fun x hx => hob x (List.mem_of_mem_take hx)
    have hmb : ∀ x ∈ out ++ [more], isByte x := by
      intro x hx
      rcases List.mem_append.1 hx with hx | hx
      · exact hob x hx
      · simp only [List.mem_singleton] at hx; subst hx; exact hmore
    refine joinW_intro (fun (s : Option Addr × Option Addr × Option Addr) h' => ∃ (pr pc pl : Nat) (q : GH), s = (some ⟨pr, 0, none⟩, some ⟨pc, 0, none⟩, some ⟨pl, 0, none⟩) ∧ h' = q.h ∧ Mv KB17 g.base q ∧ RdrC q 6 7 pr (false, 0) out ∧ RdrC q 8 9 pc (false, 0) (out.take k) ∧ RdrC q 10 11 pl (false, 0) (out ++ [more])) ?_ ?_
    · intro J hJ
      try dsimp only
      refine slice_to o5.plain rfl (by omega) ?_
      have ocut : RdC 1 q5 5 ⟨s5.a, k, s5.c⟩ ((out.take k).map byV) := by rw [List.map_take]; exact o5.rd.take (by simpa using hkl)
      refine ⟨?_, ?_⟩
      · refine read_spec q5 6 7 s5 out o5.rd (by first | omega | (simp; omega)) hob fun p37 q101 m101 d37 => ⟨_, rfl, ?_⟩
        try dsimp only
        replace m := m.step m101 (by simp)
        replace o5 := o5.mv m101 (by simp)
        replace ocut := ocut.mv m101 (by simp)
        refine ⟨?_, ?_⟩
        · refine read_spec q101 8 9 ⟨s5.a, k, s5.c⟩ (out.take k) ocut (by first | omega | (simp; omega)) hcb fun p38 q102 m102 d38 => ⟨_, rfl, ?_⟩
          try dsimp only
          replace m := m.step m102 (by simp)
          replace o5 := o5.mv m102 (by simp)
          replace ocut := ocut.mv m102 (by simp)
          replace d37 := d37.mv m102 (by simp) (by simp)
          refine ⟨?_, ?_⟩
          · refine newSl_C q102 12 rfl fun s39 q103 m103 o39 hn39 hc39 => ?_
            replace m := m.step m103 (by simp)
            replace o5 := o5.mv m103 (by simp)
            replace ocut := ocut.mv m103 (by simp)
            replace d37 := d37.mv m103 (by simp) (by simp)
            replace d38 := d38.mv m103 (by simp) (by simp)
            replace o39 : OwnC T.uint8 1 q103 12 s39 (([] : List Int).map byV) := o39
            refine ⟨?_, ?_⟩
            · refine append_C (e := T.uint8) (e2 := T.uint8) (sz := 1) (by_ := 1) (z := .int .u8 0) (by kernel_rfl) (by kernel_rfl) (by kernel_rfl) rfl (by omega) o39 o5.rd.rd (oneBy _) (by have := o39.len; have := o5.len; simp at *; omega) fun s40 q104 m104 o40 hn40 _ => ?_
              replace m := m.step m104 (by simp)
              replace o5 := o5.mv m104 (by simp)
              replace ocut := ocut.mv m104 (by simp)
              replace d37 := d37.mv m104 (by simp) (by simp)
              replace d38 := d38.mv m104 (by simp) (by simp)
              rw [← List.map_append] at o40
              rw [List.nil_append] at o40
              refine newSl_C q104 13 rfl fun s41 q105 m105 o41 hn41 hc41 => ?_
              replace m := m.step m105 (by simp)
              replace o5 := o5.mv m105 (by simp)
              replace ocut := ocut.mv m105 (by simp)
              replace d37 := d37.mv m105 (by simp) (by simp)
              replace d38 := d38.mv m105 (by simp) (by simp)
              replace o40 := o40.mv m105 (by simp)
              replace o41 : OwnC T.uint8 1 q105 13 s41 (([more] : List Int).map byV) := o41
              refine append_C (e := T.uint8) (e2 := T.uint8) (sz := 1) (by_ := 1) (z := .int .u8 0) (by kernel_rfl) (by kernel_rfl) (by kernel_rfl) rfl (by omega) o40 o41.rd.rd (oneBy _) (by have := o40.len; have := o41.len; simp at *; omega) fun s42 q106 m106 o42 hn42 _ => ?_
              replace m := m.step m106 (by simp)
              replace o5 := o5.mv m106 (by simp)
              replace ocut := ocut.mv m106 (by simp)
              replace d37 := d37.mv m106 (by simp) (by simp)
              replace d38 := d38.mv m106 (by simp) (by simp)
              replace o41 := o41.mv m106 (by simp)
              rw [← List.map_append] at o42
              refine read_spec q106 10 11 s42 (out ++ [more]) o42.rd (by first | omega | (simp; omega)) hmb fun p43 q107 m107 d43 => ⟨_, rfl, ?_⟩
              try dsimp only
              replace m := m.step m107 (by simp)
              replace o5 := o5.mv m107 (by simp)
              replace ocut := ocut.mv m107 (by simp)
              replace d37 := d37.mv m107 (by simp) (by simp)
              replace d38 := d38.mv m107 (by simp) (by simp)
              replace o41 := o41.mv m107 (by simp)
              replace o42 := o42.mv m107 (by simp)
              exact hJ _ _ ⟨p37, p38, p43, q107, rfl, rfl, m, d37, d38, d43⟩
            · refine newSl_C q103 13 rfl fun s44 q108 m108 o44 hn44 hc44 => ?_
              replace m := m.step m108 (by simp)
              replace o5 := o5.mv m108 (by simp)
              replace ocut := ocut.mv m108 (by simp)
              replace d37 := d37.mv m108 (by simp) (by simp)
              replace d38 := d38.mv m108 (by simp) (by simp)
              replace o39 := o39.mv m108 (by simp)
              replace o44 : OwnC T.uint8 1 q108 13 s44 (([more] : List Int).map byV) := o44
              refine append_C (e := T.uint8) (e2 := T.uint8) (sz := 1) (by_ := 1) (z := .int .u8 0) (by kernel_rfl) (by kernel_rfl) (by kernel_rfl) rfl (by omega) o39 o5.rd.rd (oneBy _) (by have := o39.len; have := o5.len; simp at *; omega) fun s45 q109 m109 o45 hn45 _ => ?_
              replace m := m.step m109 (by simp)
              replace o5 := o5.mv m109 (by simp)
              replace ocut := ocut.mv m109 (by simp)
              replace d37 := d37.mv m109 (by simp) (by simp)
              replace d38 := d38.mv m109 (by simp) (by simp)
              replace o44 := o44.mv m109 (by simp)
              rw [← List.map_append] at o45
              rw [List.nil_append] at o45
              refine append_C (e := T.uint8) (e2 := T.uint8) (sz := 1) (by_ := 1) (z := .int .u8 0) (by kernel_rfl) (by kernel_rfl) (by kernel_rfl) rfl (by omega) o45 o44.rd.rd (oneBy _) (by have := o45.len; have := o44.len; simp at *; omega) fun s46 q110 m110 o46 hn46 _ => ?_
              replace m := m.step m110 (by simp)
              replace o5 := o5.mv m110 (by simp)
              replace ocut := ocut.mv m110 (by simp)
              replace d37 := d37.mv m110 (by simp) (by simp)
              replace d38 := d38.mv m110 (by simp) (by simp)
              replace o44 := o44.mv m110 (by simp)
              rw [← List.map_append] at o46
              refine read_spec q110 10 11 s46 (out ++ [more]) o46.rd (by first | omega | (simp; omega)) hmb fun p47 q111 m111 d47 => ⟨_, rfl, ?_⟩
              try dsimp only
              replace m := m.step m111 (by simp)
              replace o5 := o5.mv m111 (by simp)
              replace ocut := ocut.mv m111 (by simp)
              replace d37 := d37.mv m111 (by simp) (by simp)
              replace d38 := d38.mv m111 (by simp) (by simp)
              replace o44 := o44.mv m111 (by simp)
              replace o46 := o46.mv m111 (by simp)
              exact hJ _ _ ⟨p37, p38, p47, q111, rfl, rfl, m, d37, d38, d47⟩
          · refine newSl_C q102 13 rfl fun s48 q112 m112 o48 hn48 hc48 => ?_
            replace m := m.step m112 (by simp)
            replace o5 := o5.mv m112 (by simp)
            replace ocut := ocut.mv m112 (by simp)
            replace d37 := d37.mv m112 (by simp) (by simp)
            replace d38 := d38.mv m112 (by simp) (by simp)
            replace o48 : OwnC T.uint8 1 q112 13 s48 (([more] : List Int).map byV) := o48
            refine newSl_C q112 12 rfl fun s49 q113 m113 o49 hn49 hc49 => ?_
            replace m := m.step m113 (by simp)
            replace o5 := o5.mv m113 (by simp)
            replace ocut := ocut.mv m113 (by simp)
            replace d37 := d37.mv m113 (by simp) (by simp)
            replace d38 := d38.mv m113 (by simp) (by simp)
            replace o48 := o48.mv m113 (by simp)
            replace o49 : OwnC T.uint8 1 q113 12 s49 (([] : List Int).map byV) := o49
            refine append_C (e := T.uint8) (e2 := T.uint8) (sz := 1) (by_ := 1) (z := .int .u8 0) (by kernel_rfl) (by kernel_rfl) (by kernel_rfl) rfl (by omega) o49 o5.rd.rd (oneBy _) (by have := o49.len; have := o5.len; simp at *; omega) fun s50 q114 m114 o50 hn50 _ => ?_
            replace m := m.step m114 (by simp)
            replace o5 := o5.mv m114 (by simp)
            replace ocut := ocut.mv m114 (by simp)
            replace d37 := d37.mv m114 (by simp) (by simp)
            replace d38 := d38.mv m114 (by simp) (by simp)
            replace o48 := o48.mv m114 (by simp)
            rw [← List.map_append] at o50
            rw [List.nil_append] at o50
            refine append_C (e := T.uint8) (e2 := T.uint8) (sz := 1) (by_ := 1) (z := .int .u8 0) (by kernel_rfl) (by kernel_rfl) (by kernel_rfl) rfl (by omega) o50 o48.rd.rd (oneBy _) (by have := o50.len; have := o48.len; simp at *; omega) fun s51 q115 m115 o51 hn51 _ => ?_
            replace m := m.step m115 (by simp)
            replace o5 := o5.mv m115 (by simp)
            replace ocut := ocut.mv m115 (by simp)
            replace d37 := d37.mv m115 (by simp) (by simp)
            replace d38 := d38.mv m115 (by simp) (by simp)
            replace o48 := o48.mv m115 (by simp)
            rw [← List.map_append] at o51
            refine read_spec q115 10 11 s51 (out ++ [more]) o51.rd (by first | omega | (simp; omega)) hmb fun p52 q116 m116 d52 => ⟨_, rfl, ?_⟩
            try dsimp only
            replace m := m.step m116 (by simp)
            replace o5 := o5.mv m116 (by simp)
            replace ocut := ocut.mv m116 (by simp)
            replace d37 := d37.mv m116 (by simp) (by simp)
            replace d38 := d38.mv m116 (by simp) (by simp)
            replace o48 := o48.mv m116 (by simp)
            replace o51 := o51.mv m116 (by simp)
            exact hJ _ _ ⟨p37, p38, p52, q116, rfl, rfl, m, d37, d38, d52⟩
        · refine ⟨?_, ?_⟩
          · refine newSl_C q101 12 rfl fun s53 q117 m117 o53 hn53 hc53 => ?_
            replace m := m.step m117 (by simp)
            replace o5 := o5.mv m117 (by simp)
            replace ocut := ocut.mv m117 (by simp)
            replace d37 := d37.mv m117 (by simp) (by simp)
            replace o53 : OwnC T.uint8 1 q117 12 s53 (([] : List Int).map byV) := o53
            refine ⟨?_, ?_⟩
            · refine read_spec q117 8 9 ⟨s5.a, k, s5.c⟩ (out.take k) ocut (by first | omega | (simp; omega)) hcb fun p54 q118 m118 d54 => ⟨_, rfl, ?_⟩
              try dsimp only
              replace m := m.step m118 (by simp)
              replace o5 := o5.mv m118 (by simp)
              replace ocut := ocut.mv m118 (by simp)
              replace d37 := d37.mv m118 (by simp) (by simp)
              replace o53 := o53.mv m118 (by simp)
              refine ⟨?_, ?_⟩
              · refine append_C (e := T.uint8) (e2 := T.uint8) (sz := 1) (by_ := 1) (z := .int .u8 0) (by kernel_rfl) (by kernel_rfl) (by kernel_rfl) rfl (by omega) o53 o5.rd.rd (oneBy _) (by have := o53.len; have := o5.len; simp at *; omega) fun s55 q119 m119 o55 hn55 _ => ?_
                replace m := m.step m119 (by simp)
                replace o5 := o5.mv m119 (by simp)
                replace ocut := ocut.mv m119 (by simp)
                replace d37 := d37.mv m119 (by simp) (by simp)
                replace d54 := d54.mv m119 (by simp) (by simp)
                rw [← List.map_append] at o55
                rw [List.nil_append] at o55
                refine newSl_C q119 13 rfl fun s56 q120 m120 o56 hn56 hc56 => ?_
                replace m := m.step m120 (by simp)
                replace o5 := o5.mv m120 (by simp)
                replace ocut := ocut.mv m120 (by simp)
                replace d37 := d37.mv m120 (by simp) (by simp)
                replace d54 := d54.mv m120 (by simp) (by simp)
                replace o55 := o55.mv m120 (by simp)
                replace o56 : OwnC T.uint8 1 q120 13 s56 (([more] : List Int).map byV) := o56
                refine append_C (e := T.uint8) (e2 := T.uint8) (sz := 1) (by_ := 1) (z := .int .u8 0) (by kernel_rfl) (by kernel_rfl) (by kernel_rfl) rfl (by omega) o55 o56.rd.rd (oneBy _) (by have := o55.len; have := o56.len; simp at *; omega) fun s57 q121 m121 o57 hn57 _ => ?_
                replace m := m.step m121 (by simp)
                replace o5 := o5.mv m121 (by simp)
                replace ocut := ocut.mv m121 (by simp)
                replace d37 := d37.mv m121 (by simp) (by simp)
                replace d54 := d54.mv m121 (by simp) (by simp)
                replace o56 := o56.mv m121 (by simp)
                rw [← List.map_append] at o57
                refine read_spec q121 10 11 s57 (out ++ [more]) o57.rd (by first | omega | (simp; omega)) hmb fun p58 q122 m122 d58 => ⟨_, rfl, ?_⟩
                try dsimp only
                replace m := m.step m122 (by simp)
                replace o5 := o5.mv m122 (by simp)
                replace ocut := ocut.mv m122 (by simp)
                replace d37 := d37.mv m122 (by simp) (by simp)
                replace d54 := d54.mv m122 (by simp) (by simp)
                replace o56 := o56.mv m122 (by simp)
                replace o57 := o57.mv m122 (by simp)
                exact hJ _ _ ⟨p37, p54, p58, q122, rfl, rfl, m, d37, d54, d58⟩
              · refine newSl_C q118 13 rfl fun s59 q123 m123 o59 hn59 hc59 => ?_
                replace m := m.step m123 (by simp)
                replace o5 := o5.mv m123 (by simp)
                replace ocut := ocut.mv m123 (by simp)
                replace d37 := d37.mv m123 (by simp) (by simp)
                replace o53 := o53.mv m123 (by simp)
                replace d54 := d54.mv m123 (by simp) (by simp)
                replace o59 : OwnC T.uint8 1 q123 13 s59 (([more] : List Int).map byV) := o59
                refine append_C (e := T.uint8) (e2 := T.uint8) (sz := 1) (by_ := 1) (z := .int .u8 0) (by kernel_rfl) (by kernel_rfl) (by kernel_rfl) rfl (by omega) o53 o5.rd.rd (oneBy _) (by have := o53.len; have := o5.len; simp at *; omega) fun s60 q124 m124 o60 hn60 _ => ?_
                replace m := m.step m124 (by simp)
                replace o5 := o5.mv m124 (by simp)
                replace ocut := ocut.mv m124 (by simp)
                replace d37 := d37.mv m124 (by simp) (by simp)
                replace d54 := d54.mv m124 (by simp) (by simp)
                replace o59 := o59.mv m124 (by simp)
                rw [← List.map_append] at o60
                rw [List.nil_append] at o60
                refine append_C (e := T.uint8) (e2 := T.uint8) (sz := 1) (by_ := 1) (z := .int .u8 0) (by kernel_rfl) (by kernel_rfl) (by kernel_rfl) rfl (by omega) o60 o59.rd.rd (oneBy _) (by have := o60.len; have := o59.len; simp at *; omega) fun s61 q125 m125 o61 hn61 _ => ?_
                replace m := m.step m125 (by simp)
                replace o5 := o5.mv m125 (by simp)
                replace ocut := ocut.mv m125 (by simp)
                replace d37 := d37.mv m125 (by simp) (by simp)
                replace d54 := d54.mv m125 (by simp) (by simp)
                replace o59 := o59.mv m125 (by simp)
                rw [← List.map_append] at o61
                refine read_spec q125 10 11 s61 (out ++ [more]) o61.rd (by first | omega | (simp; omega)) hmb fun p62 q126 m126 d62 => ⟨_, rfl, ?_⟩
                try dsimp only
                replace m := m.step m126 (by simp)
                replace o5 := o5.mv m126 (by simp)
                replace ocut := ocut.mv m126 (by simp)
                replace d37 := d37.mv m126 (by simp) (by simp)
                replace d54 := d54.mv m126 (by simp) (by simp)
                replace o59 := o59.mv m126 (by simp)
                replace o61 := o61.mv m126 (by simp)
                exact hJ _ _ ⟨p37, p54, p62, q126, rfl, rfl, m, d37, d54, d62⟩
            · refine newSl_C q117 13 rfl fun s63 q127 m127 o63 hn63 hc63 => ?_
              replace m := m.step m127 (by simp)
              replace o5 := o5.mv m127 (by simp)
              replace ocut := ocut.mv m127 (by simp)
              replace d37 := d37.mv m127 (by simp) (by simp)
              replace o53 := o53.mv m127 (by simp)
              replace o63 : OwnC T.uint8 1 q127 13 s63 (([more] : List Int).map byV) := o63
              refine read_spec q127 8 9 ⟨s5.a, k, s5.c⟩ (out.take k) ocut (by first | omega | (simp; omega)) hcb fun p64 q128 m128 d64 => ⟨_, rfl, ?_⟩
              try dsimp only
              replace m := m.step m128 (by simp)
              replace o5 := o5.mv m128 (by simp)
              replace ocut := ocut.mv m128 (by simp)
              replace d37 := d37.mv m128 (by simp) (by simp)
              replace o53 := o53.mv m128 (by simp)
              replace o63 := o63.mv m128 (by simp)
              refine append_C (e := T.uint8) (e2 := T.uint8) (sz := 1) (by_ := 1) (z := .int .u8 0) (by kernel_rfl) (by kernel_rfl) (by kernel_rfl) rfl (by omega) o53 o5.rd.rd (oneBy _) (by have := o53.len; have := o5.len; simp at *; omega) fun s65 q129 m129 o65 hn65 _ => ?_
              replace m := m.step m129 (by simp)
              replace o5 := o5.mv m129 (by simp)
              replace ocut := ocut.mv m129 (by simp)
              replace d37 := d37.mv m129 (by simp) (by simp)
              replace o63 := o63.mv m129 (by simp)
              replace d64 := d64.mv m129 (by simp) (by simp)
              rw [← List.map_append] at o65
              rw [List.nil_append] at o65
              refine append_C (e := T.uint8) (e2 := T.uint8) (sz := 1) (by_ := 1) (z := .int .u8 0) (by kernel_rfl) (by kernel_rfl) (by kernel_rfl) rfl (by omega) o65 o63.rd.rd (oneBy _) (by have := o65.len; have := o63.len; simp at *; omega) fun s66 q130 m130 o66 hn66 _ => ?_
              replace m := m.step m130 (by simp)
              replace o5 := o5.mv m130 (by simp)
              replace ocut := ocut.mv m130 (by simp)
              replace d37 := d37.mv m130 (by simp) (by simp)
              replace o63 := o63.mv m130 (by simp)
              replace d64 := d64.mv m130 (by simp) (by simp)
              rw [← List.map_append] at o66
              refine read_spec q130 10 11 s66 (out ++ [more]) o66.rd (by first | omega | (simp; omega)) hmb fun p67 q131 m131 d67 => ⟨_, rfl, ?_⟩
              try dsimp only
              replace m := m.step m131 (by simp)
              replace o5 := o5.mv m131 (by simp)
              replace ocut := ocut.mv m131 (by simp)
              replace d37 := d37.mv m131 (by simp) (by simp)
              replace o63 := o63.mv m131 (by simp)
              replace d64 := d64.mv m131 (by simp) (by simp)
              replace o66 := o66.mv m131 (by simp)
              exact hJ _ _ ⟨p37, p64, p67, q131, rfl, rfl, m, d37, d64, d67⟩
          · refine newSl_C q101 13 rfl fun s68 q132 m132 o68 hn68 hc68 => ?_
            replace m := m.step m132 (by simp)
            replace o5 := o5.mv m132 (by simp)
            replace ocut := ocut.mv m132 (by simp)
            replace d37 := d37.mv m132 (by simp) (by simp)
            replace o68 : OwnC T.uint8 1 q132 13 s68 (([more] : List Int).map byV) := o68
            refine ⟨?_, ?_⟩
            · refine read_spec q132 8 9 ⟨s5.a, k, s5.c⟩ (out.take k) ocut (by first | omega | (simp; omega)) hcb fun p69 q133 m133 d69 => ⟨_, rfl, ?_⟩
              try dsimp only
              replace m := m.step m133 (by simp)
              replace o5 := o5.mv m133 (by simp)
              replace ocut := ocut.mv m133 (by simp)
              replace d37 := d37.mv m133 (by simp) (by simp)
              replace o68 := o68.mv m133 (by simp)
              refine newSl_C q133 12 rfl fun s70 q134 m134 o70 hn70 hc70 => ?_
              replace m := m.step m134 (by simp)
              replace o5 := o5.mv m134 (by simp)
              replace ocut := ocut.mv m134 (by simp)
              replace d37 := d37.mv m134 (by simp) (by simp)
              replace o68 := o68.mv m134 (by simp)
              replace d69 := d69.mv m134 (by simp) (by simp)
              replace o70 : OwnC T.uint8 1 q134 12 s70 (([] : List Int).map byV) := o70
              refine append_C (e := T.uint8) (e2 := T.uint8) (sz := 1) (by_ := 1) (z := .int .u8 0) (by kernel_rfl) (by kernel_rfl) (by kernel_rfl) rfl (by omega) o70 o5.rd.rd (oneBy _) (by have := o70.len; have := o5.len; simp at *; omega) fun s71 q135 m135 o71 hn71 _ => ?_
              replace m := m.step m135 (by simp)
              replace o5 := o5.mv m135 (by simp)
              replace ocut := ocut.mv m135 (by simp)
              replace d37 := d37.mv m135 (by simp) (by simp)
              replace o68 := o68.mv m135 (by simp)
              replace d69 := d69.mv m135 (by simp) (by simp)
              rw [← List.map_append] at o71
              rw [List.nil_append] at o71
              refine append_C (e := T.uint8) (e2 := T.uint8) (sz := 1) (by_ := 1) (z := .int .u8 0) (by kernel_rfl) (by kernel_rfl) (by kernel_rfl) rfl (by omega) o71 o68.rd.rd (oneBy _) (by have := o71.len; have := o68.len; simp at *; omega) fun s72 q136 m136 o72 hn72 _ => ?_
              replace m := m.step m136 (by simp)
              replace o5 := o5.mv m136 (by simp)
              replace ocut := ocut.mv m136 (by simp)
              replace d37 := d37.mv m136 (by simp) (by simp)
              replace o68 := o68.mv m136 (by simp)
              replace d69 := d69.mv m136 (by simp) (by simp)
              rw [← List.map_append] at o72
              refine read_spec q136 10 11 s72 (out ++ [more]) o72.rd (by first | omega | (simp; omega)) hmb fun p73 q137 m137 d73 => ⟨_, rfl, ?_⟩
              try dsimp only
              replace m := m.step m137 (by simp)
              replace o5 := o5.mv m137 (by simp)
              replace ocut := ocut.mv m137 (by simp)
              replace d37 := d37.mv m137 (by simp) (by simp)
              replace o68 := o68.mv m137 (by simp)
              replace d69 := d69.mv m137 (by simp) (by simp)
              replace o72 := o72.mv m137 (by simp)
              exact hJ _ _ ⟨p37, p69, p73, q137, rfl, rfl, m, d37, d69, d73⟩
            · refine newSl_C q132 12 rfl fun s74 q138 m138 o74 hn74 hc74 => ?_
              replace m := m.step m138 (by simp)
              replace o5 := o5.mv m138 (by simp)
              replace ocut := ocut.mv m138 (by simp)
              replace d37 := d37.mv m138 (by simp) (by simp)
              replace o68 := o68.mv m138 (by simp)
              replace o74 : OwnC T.uint8 1 q138 12 s74 (([] : List Int).map byV) := o74
              refine read_spec q138 8 9 ⟨s5.a, k, s5.c⟩ (out.take k) ocut (by first | omega | (simp; omega)) hcb fun p75 q139 m139 d75 => ⟨_, rfl, ?_⟩
              try dsimp only
              replace m := m.step m139 (by simp)
              replace o5 := o5.mv m139 (by simp)
              replace ocut := ocut.mv m139 (by simp)
              replace d37 := d37.mv m139 (by simp) (by simp)
              replace o68 := o68.mv m139 (by simp)
              replace o74 := o74.mv m139 (by simp)
              refine append_C (e := T.uint8) (e2 := T.uint8) (sz := 1) (by_ := 1) (z := .int .u8 0) (by kernel_rfl) (by kernel_rfl) (by kernel_rfl) rfl (by omega) o74 o5.rd.rd (oneBy _) (by have := o74.len; have := o5.len; simp at *; omega) fun s76 q140 m140 o76 hn76 _ => ?_
              replace m := m.step m140 (by simp)
              replace o5 := o5.mv m140 (by simp)
              replace ocut := ocut.mv m140 (by simp)
              replace d37 := d37.mv m140 (by simp) (by simp)
              replace o68 := o68.mv m140 (by simp)
              replace d75 := d75.mv m140 (by simp) (by simp)
              rw [← List.map_append] at o76
              rw [List.nil_append] at o76
              refine append_C (e := T.uint8) (e2 := T.uint8) (sz := 1) (by_ := 1) (z := .int .u8 0) (by kernel_rfl) (by kernel_rfl) (by kernel_rfl) rfl (by omega) o76 o68.rd.rd (oneBy _) (by have := o76.len; have := o68.len; simp at *; omega) fun s77 q141 m141 o77 hn77 _ => ?_
              replace m := m.step m141 (by simp)
              replace o5 := o5.mv m141 (by simp)
              replace ocut := ocut.mv m141 (by simp)
              replace d37 := d37.mv m141 (by simp) (by simp)
              replace o68 := o68.mv m141 (by simp)
              replace d75 := d75.mv m141 (by simp) (by simp)
              rw [← List.map_append] at o77
              refine read_spec q141 10 11 s77 (out ++ [more]) o77.rd (by first | omega | (simp; omega)) hmb fun p78 q142 m142 d78 => ⟨_, rfl, ?_⟩
              try dsimp only
              replace m := m.step m142 (by simp)
              replace o5 := o5.mv m142 (by simp)
              replace ocut := ocut.mv m142 (by simp)
              replace d37 := d37.mv m142 (by simp) (by simp)
              replace o68 := o68.mv m142 (by simp)
              replace d75 := d75.mv m142 (by simp) (by simp)
              replace o77 := o77.mv m142 (by simp)
              exact hJ _ _ ⟨p37, p75, p78, q142, rfl, rfl, m, d37, d75, d78⟩
      · refine ⟨?_, ?_⟩
        · refine newSl_C q5 12 rfl fun s79 q143 m143 o79 hn79 hc79 => ?_
          replace m := m.step m143 (by simp)
          replace o5 := o5.mv m143 (by simp)
          replace ocut := ocut.mv m143 (by simp)
          replace o79 : OwnC T.uint8 1 q143 12 s79 (([] : List Int).map byV) := o79
          refine ⟨?_, ?_⟩
          · refine read_spec q143 6 7 s5 out o5.rd (by first | omega | (simp; omega)) hob fun p80 q144 m144 d80 => ⟨_, rfl, ?_⟩
            try dsimp only
            replace m := m.step m144 (by simp)
            replace o5 := o5.mv m144 (by simp)
            replace ocut := ocut.mv m144 (by simp)
            replace o79 := o79.mv m144 (by simp)
            refine ⟨?_, ?_⟩
            · refine read_spec q144 8 9 ⟨s5.a, k, s5.c⟩ (out.take k) ocut (by first | omega | (simp; omega)) hcb fun p81 q145 m145 d81 => ⟨_, rfl, ?_⟩
              try dsimp only
              replace m := m.step m145 (by simp)
              replace o5 := o5.mv m145 (by simp)
              replace ocut := ocut.mv m145 (by simp)
              replace o79 := o79.mv m145 (by simp)
              replace d80 := d80.mv m145 (by simp) (by simp)
              refine ⟨?_, ?_⟩
              · refine append_C (e := T.uint8) (e2 := T.uint8) (sz := 1) (by_ := 1) (z := .int .u8 0) (by kernel_rfl) (by kernel_rfl) (by kernel_rfl) rfl (by omega) o79 o5.rd.rd (oneBy _) (by have := o79.len; have := o5.len; simp at *; omega) fun s82 q146 m146 o82 hn82 _ => ?_
                replace m := m.step m146 (by simp)
                replace o5 := o5.mv m146 (by simp)
                replace ocut := ocut.mv m146 (by simp)
                replace d80 := d80.mv m146 (by simp) (by simp)
                replace d81 := d81.mv m146 (by simp) (by simp)
                rw [← List.map_append] at o82
                rw [List.nil_append] at o82
                refine newSl_C q146 13 rfl fun s83 q147 m147 o83 hn83 hc83 => ?_
                replace m := m.step m147 (by simp)
                replace o5 := o5.mv m147 (by simp)
                replace ocut := ocut.mv m147 (by simp)
                replace d80 := d80.mv m147 (by simp) (by simp)
                replace d81 := d81.mv m147 (by simp) (by simp)
                replace o82 := o82.mv m147 (by simp)
                replace o83 : OwnC T.uint8 1 q147 13 s83 (([more] : List Int).map byV) := o83
                refine append_C (e := T.uint8) (e2 := T.uint8) (sz := 1) (by_ := 1) (z := .int .u8 0) (by kernel_rfl) (by kernel_rfl) (by kernel_rfl) rfl (by omega) o82 o83.rd.rd (oneBy _) (by have := o82.len; have := o83.len; simp at *; omega) fun s84 q148 m148 o84 hn84 _ => ?_
                replace m := m.step m148 (by simp)
                replace o5 := o5.mv m148 (by simp)
                replace ocut := ocut.mv m148 (by simp)
                replace d80 := d80.mv m148 (by simp) (by simp)
                replace d81 := d81.mv m148 (by simp) (by simp)
                replace o83 := o83.mv m148 (by simp)
                rw [← List.map_append] at o84
                refine read_spec q148 10 11 s84 (out ++ [more]) o84.rd (by first | omega | (simp; omega)) hmb fun p85 q149 m149 d85 => ⟨_, rfl, ?_⟩
                try dsimp only
                replace m := m.step m149 (by simp)
                replace o5 := o5.mv m149 (by simp)
                replace ocut := ocut.mv m149 (by simp)
                replace d80 := d80.mv m149 (by simp) (by simp)
                replace d81 := d81.mv m149 (by simp) (by simp)
                replace o83 := o83.mv m149 (by simp)
                replace o84 := o84.mv m149 (by simp)
                exact hJ _ _ ⟨p80, p81, p85, q149, rfl, rfl, m, d80, d81, d85⟩
              · refine newSl_C q145 13 rfl fun s86 q150 m150 o86 hn86 hc86 => ?_
                replace m := m.step m150 (by simp)
                replace o5 := o5.mv m150 (by simp)
                replace ocut := ocut.mv m150 (by simp)
                replace o79 := o79.mv m150 (by simp)
                replace d80 := d80.mv m150 (by simp) (by simp)
                replace d81 := d81.mv m150 (by simp) (by simp)
                replace o86 : OwnC T.uint8 1 q150 13 s86 (([more] : List Int).map byV) := o86
                refine append_C (e := T.uint8) (e2 := T.uint8) (sz := 1) (by_ := 1) (z := .int .u8 0) (by kernel_rfl) (by kernel_rfl) (by kernel_rfl) rfl (by omega) o79 o5.rd.rd (oneBy _) (by have := o79.len; have := o5.len; simp at *; omega) fun s87 q151 m151 o87 hn87 _ => ?_
                replace m := m.step m151 (by simp)
                replace o5 := o5.mv m151 (by simp)
                replace ocut := ocut.mv m151 (by simp)
                replace d80 := d80.mv m151 (by simp) (by simp)
                replace d81 := d81.mv m151 (by simp) (by simp)
                replace o86 := o86.mv m151 (by simp)
                rw [← List.map_append] at o87
                rw [List.nil_append] at o87
                refine append_C (e := T.uint8) (e2 := T.uint8) (sz := 1) (by_ := 1) (z := .int .u8 0) (by kernel_rfl) (by kernel_rfl) (by kernel_rfl) rfl (by omega) o87 o86.rd.rd (oneBy _) (by have := o87.len; have := o86.len; simp at *; omega) fun s88 q152 m152 o88 hn88 _ => ?_
                replace m := m.step m152 (by simp)
                replace o5 := o5.mv m152 (by simp)
                replace ocut := ocut.mv m152 (by simp)
                replace d80 := d80.mv m152 (by simp) (by simp)
                replace d81 := d81.mv m152 (by simp) (by simp)
                replace o86 := o86.mv m152 (by simp)
                rw [← List.map_append] at o88
                refine read_spec q152 10 11 s88 (out ++ [more]) o88.rd (by first | omega | (simp; omega)) hmb fun p89 q153 m153 d89 => ⟨_, rfl, ?_⟩
                try dsimp only
                replace m := m.step m153 (by simp)
                replace o5 := o5.mv m153 (by simp)
                replace ocut := ocut.mv m153 (by simp)
                replace d80 := d80.mv m153 (by simp) (by simp)
                replace d81 := d81.mv m153 (by simp) (by simp)
                replace o86 := o86.mv m153 (by simp)
                replace o88 := o88.mv m153 (by simp)
                exact hJ _ _ ⟨p80, p81, p89, q153, rfl, rfl, m, d80, d81, d89⟩
            · refine newSl_C q144 13 rfl fun s90 q154 m154 o90 hn90 hc90 => ?_
              replace m := m.step m154 (by simp)
              replace o5 := o5.mv m154 (by simp)
              replace ocut := ocut.mv m154 (by simp)
              replace o79 := o79.mv m154 (by simp)
              replace d80 := d80.mv m154 (by simp) (by simp)
              replace o90 : OwnC T.uint8 1 q154 13 s90 (([more] : List Int).map byV) := o90
              refine read_spec q154 8 9 ⟨s5.a, k, s5.c⟩ (out.take k) ocut (by first | omega | (simp; omega)) hcb fun p91 q155 m155 d91 => ⟨_, rfl, ?_⟩
              try dsimp only
              replace m := m.step m155 (by simp)
              replace o5 := o5.mv m155 (by simp)
              replace ocut := ocut.mv m155 (by simp)
              replace o79 := o79.mv m155 (by simp)
              replace d80 := d80.mv m155 (by simp) (by simp)
              replace o90 := o90.mv m155 (by simp)
              refine append_C (e := T.uint8) (e2 := T.uint8) (sz := 1) (by_ := 1) (z := .int .u8 0) (by kernel_rfl) (by kernel_rfl) (by kernel_rfl) rfl (by omega) o79 o5.rd.rd (oneBy _) (by have := o79.len; have := o5.len; simp at *; omega) fun s92 q156 m156 o92 hn92 _ => ?_
              replace m := m.step m156 (by simp)
              replace o5 := o5.mv m156 (by simp)
              replace ocut := ocut.mv m156 (by simp)
              replace d80 := d80.mv m156 (by simp) (by simp)
              replace o90 := o90.mv m156 (by simp)
              replace d91 := d91.mv m156 (by simp) (by simp)
              rw [← List.map_append] at o92
              rw [List.nil_append] at o92
              refine append_C (e := T.uint8) (e2 := T.uint8) (sz := 1) (by_ := 1) (z := .int .u8 0) (by kernel_rfl) (by kernel_rfl) (by kernel_rfl) rfl (by omega) o92 o90.rd.rd (oneBy _) (by have := o92.len; have := o90.len; simp at *; omega) fun s93 q157 m157 o93 hn93 _ => ?_
              replace m := m.step m157 (by simp)
              replace o5 := o5.mv m157 (by simp)
              replace ocut := ocut.mv m157 (by simp)
              replace d80 := d80.mv m157 (by simp) (by simp)
              replace o90 := o90.mv m157 (by simp)
              replace d91 := d91.mv m157 (by simp) (by simp)
              rw [← List.map_append] at o93
              refine read_spec q157 10 11 s93 (out ++ [more]) o93.rd (by first | omega | (simp; omega)) hmb fun p94 q158 m158 d94 => ⟨_, rfl, ?_⟩
              try dsimp only
              replace m := m.step m158 (by simp)
              replace o5 := o5.mv m158 (by simp)
              replace ocut := ocut.mv m158 (by simp)
              replace d80 := d80.mv m158 (by simp) (by simp)
              replace o90 := o90.mv m158 (by simp)
              replace d91 := d91.mv m158 (by simp) (by simp)
              replace o93 := o93.mv m158 (by simp)
              exact hJ _ _ ⟨p80, p91, p94, q158, rfl, rfl, m, d80, d91, d94⟩
          · refine newSl_C q143 13 rfl fun s95 q159 m159 o95 hn95 hc95 => ?_
            replace m := m.step m159 (by simp)
            replace o5 := o5.mv m159 (by simp)
            replace ocut := ocut.mv m159 (by simp)
            replace o79 := o79.mv m159 (by simp)
            replace o95 : OwnC T.uint8 1 q159 13 s95 (([more] : List Int).map byV) := o95
            refine read_spec q159 6 7 s5 out o5.rd (by first | omega | (simp; omega)) hob fun p96 q160 m160 d96 => ⟨_, rfl, ?_⟩
            try dsimp only
            replace m := m.step m160 (by simp)
            replace o5 := o5.mv m160 (by simp)
            replace ocut := ocut.mv m160 (by simp)
            replace o79 := o79.mv m160 (by simp)
            replace o95 := o95.mv m160 (by simp)
            refine read_spec q160 8 9 ⟨s5.a, k, s5.c⟩ (out.take k) ocut (by first | omega | (simp; omega)) hcb fun p97 q161 m161 d97 => ⟨_, rfl, ?_⟩
            try dsimp only
            replace m := m.step m161 (by simp)
            replace o5 := o5.mv m161 (by simp)
            replace ocut := ocut.mv m161 (by simp)
            replace o79 := o79.mv m161 (by simp)
            replace o95 := o95.mv m161 (by simp)
            replace d96 := d96.mv m161 (by simp) (by simp)
            refine append_C (e := T.uint8) (e2 := T.uint8) (sz := 1) (by_ := 1) (z := .int .u8 0) (by kernel_rfl) (by kernel_rfl) (by kernel_rfl) rfl (by omega) o79 o5.rd.rd (oneBy _) (by have := o79.len; have := o5.len; simp at *; omega) fun s98 q162 m162 o98 hn98 _ => ?_
            replace m := m.step m162 (by simp)
            replace o5 := o5.mv m162 (by simp)
            replace ocut := ocut.mv m162 (by simp)
            replace o95 := o95.mv m162 (by simp)
            replace d96 := d96.mv m162 (by simp) (by simp)
            replace d97 := d97.mv m162 (by simp) (by simp)
            rw [← List.map_append] at o98
            rw [List.nil_append] at o98
            refine append_C (e := T.uint8) (e2 := T.uint8) (sz := 1) (by_ := 1) (z := .int .u8 0) (by kernel_rfl) (by kernel_rfl) (by kernel_rfl) rfl (by omega) o98 o95.rd.rd (oneBy _) (by have := o98.len; have := o95.len; simp at *; omega) fun s99 q163 m163 o99 hn99 _ => ?_
            replace m := m.step m163 (by simp)
            replace o5 := o5.mv m163 (by simp)
            replace ocut := ocut.mv m163 (by simp)
            replace o95 := o95.mv m163 (by simp)
            replace d96 := d96.mv m163 (by simp) (by simp)
            replace d97 := d97.mv m163 (by simp) (by simp)
            rw [← List.map_append] at o99
            refine read_spec q163 10 11 s99 (out ++ [more]) o99.rd (by first | omega | (simp; omega)) hmb fun p100 q164 m164 d100 => ⟨_, rfl, ?_⟩
            try dsimp only
            replace m := m.step m164 (by simp)
            replace o5 := o5.mv m164 (by simp)
            replace ocut := ocut.mv m164 (by simp)
            replace o95 := o95.mv m164 (by simp)
            replace d96 := d96.mv m164 (by simp) (by simp)
            replace d97 := d97.mv m164 (by simp) (by simp)
            replace o99 := o99.mv m164 (by simp)
            exact hJ _ _ ⟨p96, p97, p100, q164, rfl, rfl, m, d96, d97, d100⟩
        · refine newSl_C q5 13 rfl fun s101 q165 m165 o101 hn101 hc101 => ?_
          replace m := m.step m165 (by simp)
          replace o5 := o5.mv m165 (by simp)
          replace ocut := ocut.mv m165 (by simp)
          replace o101 : OwnC T.uint8 1 q165 13 s101 (([more] : List Int).map byV) := o101
          refine ⟨?_, ?_⟩
          · refine read_spec q165 6 7 s5 out o5.rd (by first | omega | (simp; omega)) hob fun p102 q166 m166 d102 => ⟨_, rfl, ?_⟩
            try dsimp only
            replace m := m.step m166 (by simp)
            replace o5 := o5.mv m166 (by simp)
            replace ocut := ocut.mv m166 (by simp)
            replace o101 := o101.mv m166 (by simp)
            refine ⟨?_, ?_⟩
            · refine read_spec q166 8 9 ⟨s5.a, k, s5.c⟩ (out.take k) ocut (by first | omega | (simp; omega)) hcb fun p103 q167 m167 d103 => ⟨_, rfl, ?_⟩
              try dsimp only
              replace m := m.step m167 (by simp)
              replace o5 := o5.mv m167 (by simp)
              replace ocut := ocut.mv m167 (by simp)
              replace o101 := o101.mv m167 (by simp)
              replace d102 := d102.mv m167 (by simp) (by simp)
              refine newSl_C q167 12 rfl fun s104 q168 m168 o104 hn104 hc104 => ?_
              replace m := m.step m168 (by simp)
              replace o5 := o5.mv m168 (by simp)
              replace ocut := ocut.mv m168 (by simp)
              replace o101 := o101.mv m168 (by simp)
              replace d102 := d102.mv m168 (by simp) (by simp)
              replace d103 := d103.mv m168 (by simp) (by simp)
              replace o104 : OwnC T.uint8 1 q168 12 s104 (([] : List Int).map byV) := o104
              refine append_C (e := T.uint8) (e2 := T.uint8) (sz := 1) (by_ := 1) (z := .int .u8 0) (by kernel_rfl) (by kernel_rfl) (by kernel_rfl) rfl (by omega) o104 o5.rd.rd (oneBy _) (by have := o104.len; have := o5.len; simp at *; omega) fun s105 q169 m169 o105 hn105 _ => ?_
              replace m := m.step m169 (by simp)
              replace o5 := o5.mv m169 (by simp)
              replace ocut := ocut.mv m169 (by simp)
              replace o101 := o101.mv m169 (by simp)
              replace d102 := d102.mv m169 (by simp) (by simp)
              replace d103 := d103.mv m169 (by simp) (by simp)
              rw [← List.map_append] at o105
              rw [List.nil_append] at o105
              refine append_C (e := T.uint8) (e2 := T.uint8) (sz := 1) (by_ := 1) (z := .int .u8 0) (by kernel_rfl) (by kernel_rfl) (by kernel_rfl) rfl (by omega) o105 o101.rd.rd (oneBy _) (by have := o105.len; have := o101.len; simp at *; omega) fun s106 q170 m170 o106 hn106 _ => ?_
              replace m := m.step m170 (by simp)
              replace o5 := o5.mv m170 (by simp)
              replace ocut := ocut.mv m170 (by simp)
              replace o101 := o101.mv m170 (by simp)
              replace d102 := d102.mv m170 (by simp) (by simp)
              replace d103 := d103.mv m170 (by simp) (by simp)
              rw [← List.map_append] at o106
              refine read_spec q170 10 11 s106 (out ++ [more]) o106.rd (by first | omega | (simp; omega)) hmb fun p107 q171 m171 d107 => ⟨_, rfl, ?_⟩
              try dsimp only
              replace m := m.step m171 (by simp)
              replace o5 := o5.mv m171 (by simp)
              replace ocut := ocut.mv m171 (by simp)
              replace o101 := o101.mv m171 (by simp)
              replace d102 := d102.mv m171 (by simp) (by simp)
              replace d103 := d103.mv m171 (by simp) (by simp)
              replace o106 := o106.mv m171 (by simp)
              exact hJ _ _ ⟨p102, p103, p107, q171, rfl, rfl, m, d102, d103, d107⟩
            · refine newSl_C q166 12 rfl fun s108 q172 m172 o108 hn108 hc108 => ?_
              replace m := m.step m172 (by simp)
              replace o5 := o5.mv m172 (by simp)
              replace ocut := ocut.mv m172 (by simp)
              replace o101 := o101.mv m172 (by simp)
              replace d102 := d102.mv m172 (by simp) (by simp)
              replace o108 : OwnC T.uint8 1 q172 12 s108 (([] : List Int).map byV) := o108
              refine read_spec q172 8 9 ⟨s5.a, k, s5.c⟩ (out.take k) ocut (by first | omega | (simp; omega)) hcb fun p109 q173 m173 d109 => ⟨_, rfl, ?_⟩
              try dsimp only
              replace m := m.step m173 (by simp)
              replace o5 := o5.mv m173 (by simp)
              replace ocut := ocut.mv m173 (by simp)
              replace o101 := o101.mv m173 (by simp)
              replace d102 := d102.mv m173 (by simp) (by simp)
              replace o108 := o108.mv m173 (by simp)
              refine append_C (e := T.uint8) (e2 := T.uint8) (sz := 1) (by_ := 1) (z := .int .u8 0) (by kernel_rfl) (by kernel_rfl) (by kernel_rfl) rfl (by omega) o108 o5.rd.rd (oneBy _) (by have := o108.len; have := o5.len; simp at *; omega) fun s110 q174 m174 o110 hn110 _ => ?_
              replace m := m.step m174 (by simp)
              replace o5 := o5.mv m174 (by simp)
              replace ocut := ocut.mv m174 (by simp)
              replace o101 := o101.mv m174 (by simp)
              replace d102 := d102.mv m174 (by simp) (by simp)
              replace d109 := d109.mv m174 (by simp) (by simp)
              rw [← List.map_append] at o110
              rw [List.nil_append] at o110
              refine append_C (e := T.uint8) (e2 := T.uint8) (sz := 1) (by_ := 1) (z := .int .u8 0) (by kernel_rfl) (by kernel_rfl) (by kernel_rfl) rfl (by omega) o110 o101.rd.rd (oneBy _) (by have := o110.len; have := o101.len; simp at *; omega) fun s111 q175 m175 o111 hn111 _ => ?_
              replace m := m.step m175 (by simp)
              replace o5 := o5.mv m175 (by simp)
              replace ocut := ocut.mv m175 (by simp)
              replace o101 := o101.mv m175 (by simp)
              replace d102 := d102.mv m175 (by simp) (by simp)
              replace d109 := d109.mv m175 (by simp) (by simp)
              rw [← List.map_append] at o111
              refine read_spec q175 10 11 s111 (out ++ [more]) o111.rd (by first | omega | (simp; omega)) hmb fun p112 q176 m176 d112 => ⟨_, rfl, ?_⟩
              try dsimp only
              replace m := m.step m176 (by simp)
              replace o5 := o5.mv m176 (by simp)
              replace ocut := ocut.mv m176 (by simp)
              replace o101 := o101.mv m176 (by simp)
              replace d102 := d102.mv m176 (by simp) (by simp)
              replace d109 := d109.mv m176 (by simp) (by simp)
              replace o111 := o111.mv m176 (by simp)
              exact hJ _ _ ⟨p102, p109, p112, q176, rfl, rfl, m, d102, d109, d112⟩
          · refine newSl_C q165 12 rfl fun s113 q177 m177 o113 hn113 hc113 => ?_
            replace m := m.step m177 (by simp)
            replace o5 := o5.mv m177 (by simp)
            replace ocut := ocut.mv m177 (by simp)
            replace o101 := o101.mv m177 (by simp)
            replace o113 : OwnC T.uint8 1 q177 12 s113 (([] : List Int).map byV) := o113
            refine read_spec q177 6 7 s5 out o5.rd (by first | omega | (simp; omega)) hob fun p114 q178 m178 d114 => ⟨_, rfl, ?_⟩
            try dsimp only
            replace m := m.step m178 (by simp)
            replace o5 := o5.mv m178 (by simp)
            replace ocut := ocut.mv m178 (by simp)
            replace o101 := o101.mv m178 (by simp)
            replace o113 := o113.mv m178 (by simp)
            refine read_spec q178 8 9 ⟨s5.a, k, s5.c⟩ (out.take k) ocut (by first | omega | (simp; omega)) hcb fun p115 q179 m179 d115 => ⟨_, rfl, ?_⟩
            try dsimp only
            replace m := m.step m179 (by simp)
            replace o5 := o5.mv m179 (by simp)
            replace ocut := ocut.mv m179 (by simp)
            replace o101 := o101.mv m179 (by simp)
            replace o113 := o113.mv m179 (by simp)
            replace d114 := d114.mv m179 (by simp) (by simp)
            refine append_C (e := T.uint8) (e2 := T.uint8) (sz := 1) (by_ := 1) (z := .int .u8 0) (by kernel_rfl) (by kernel_rfl) (by kernel_rfl) rfl (by omega) o113 o5.rd.rd (oneBy _) (by have := o113.len; have := o5.len; simp at *; omega) fun s116 q180 m180 o116 hn116 _ => ?_
            replace m := m.step m180 (by simp)
            replace o5 := o5.mv m180 (by simp)
            replace ocut := ocut.mv m180 (by simp)
            replace o101 := o101.mv m180 (by simp)
            replace d114 := d114.mv m180 (by simp) (by simp)
            replace d115 := d115.mv m180 (by simp) (by simp)
            rw [← List.map_append] at o116
            rw [List.nil_append] at o116
            refine append_C (e := T.uint8) (e2 := T.uint8) (sz := 1) (by_ := 1) (z := .int .u8 0) (by kernel_rfl) (by kernel_rfl) (by kernel_rfl) rfl (by omega) o116 o101.rd.rd (oneBy _) (by have := o116.len; have := o101.len; simp at *; omega) fun s117 q181 m181 o117 hn117 _ => ?_
            replace m := m.step m181 (by simp)
            replace o5 := o5.mv m181 (by simp)
            replace ocut := ocut.mv m181 (by simp)
            replace o101 := o101.mv m181 (by simp)
            replace d114 := d114.mv m181 (by simp) (by simp)
            replace d115 := d115.mv m181 (by simp) (by simp)
            rw [← List.map_append] at o117
            refine read_spec q181 10 11 s117 (out ++ [more]) o117.rd (by first | omega | (simp; omega)) hmb fun p118 q182 m182 d118 => ⟨_, rfl, ?_⟩
            try dsimp only
            replace m := m.step m182 (by simp)
            replace o5 := o5.mv m182 (by simp)
            replace ocut := ocut.mv m182 (by simp)
            replace o101 := o101.mv m182 (by simp)
            replace d114 := d114.mv m182 (by simp) (by simp)
            replace d115 := d115.mv m182 (by simp) (by simp)
            replace o117 := o117.mv m182 (by simp)
            exact hJ _ _ ⟨p114, p115, p118, q182, rfl, rfl, m, d114, d115, d118⟩
    · rintro _ _ ⟨pr, pc, pl, q6, rfl, rfl, m, dr, dc, dl⟩
      try dsimp only
      refine loopW_rule (fun s h' => ∃ (i : Nat) (q : GH), i ≤ l.length ∧ s = (i : Int) ∧ h' = q.h ∧ Mv KB17 g.base q ∧ RdrC q 6 7 pr (false, ((l.take i).flatMap fieldsD).length) out ∧ RdrC q 8 9 pc (false, 0) (out.take k) ∧ RdrC q 10 11 pl (false, ((l.take i).flatMap fieldsD).length) (out ++ [more])) (fun s => l.length - s.toNat)
        ⟨0, q6, by omega, rfl, rfl, m, dr, dc, dl⟩ ?_
      clear m dr dc dl
      rintro X _ _ ⟨i, q, hi, rfl, rfl, m, dr, dc, dl⟩ hX
      by_cases hlt : i < l.length
      · rw [if_pos (by first | omega | (simp; omega))]
        have hd0 := fields_drop l hlt
        rw [hout] at hd0
        have hsd := size_mem (List.getElem_mem hlt)
        have hgi := hg _ (List.getElem_mem hlt)
        have hoki := hok _ (List.getElem_mem hlt)
        have hfull : ∀ rest : List Int, backD (out ++ rest) (false, ((l.take i).flatMap fieldsD).length) l[i] = (true, (false, ((l.take (i + 1)).flatMap fieldsD).length)) := fun rest => by
          rw [fields_take l hlt, List.length_append]
          rcases backD_ok (agree_full out rest) l[i] hoki hgi (by omega) _ _ hd0 with h | h
          · exact h.1.elim
          · exact h
        refine (hl.arg m (by simp)).idx (sizeDeed17.trans rfl) (by decide) hlt fun b o cs hcs lay => ?_
        have hcl : cs.length = 4 := lay.length
        refine loadDeed hcs hcl ?_
        refine back17_spec (by decide) (by decide) dr l[i] cs lay (by omega) fun q7 m7 dr => ⟨_, rfl, ?_⟩
        replace m := m.step m7 (by simp)
        replace dc := dc.mv m7 (by simp) (by simp)
        replace dl := dl.mv m7 (by simp) (by simp)
        have hf0 := hfull []
        rw [List.append_nil] at hf0
        rw [hf0] at dr ⊢
        try dsimp only
        rw [if_neg (by simp)]
        refine (hl.arg m (by simp)).idx (sizeDeed17.trans rfl) (by decide) hlt fun b o cs hcs lay => ?_
        have hcl : cs.length = 4 := lay.length
        refine loadDeed hcs hcl ?_
        refine back17_spec (by decide) (by decide) dl l[i] cs lay (by omega) fun q8 m8 dl => ⟨_, rfl, ?_⟩
        replace m := m.step m8 (by simp)
        replace dc := dc.mv m8 (by simp) (by simp)
        replace dr := dr.mv m8 (by simp) (by simp)
        rw [hfull [more]] at dl ⊢
        try dsimp only
        rw [if_neg (by simp), wrapSucc (by omega)]
        exact hX _ _ ⟨i + 1, q8, by omega, rfl, rfl, m, dr, dc, dl⟩ (by simp; omega)
      · rw [if_neg (by first | omega | (simp; omega))]
        clear hX
        have hi' : i = l.length := by omega
        subst hi'
        rw [List.take_length, hout] at dr dl
        refine joinW_intro (fun _ h' => ∃ (q : GH) (st : Bool × Nat), h' = q.h ∧ Mv KB17 g.base q ∧ RdrC q 6 7 pr (false, out.length) out ∧ RdrC q 8 9 pc st (out.take k) ∧ RdrC q 10 11 pl (false, out.length) (out ++ [more]) ∧ (k < out.length → st.1 = true ∨ st.2 = out.length)) ?_ ?_
        · intro J hJ
          refine loopW_rule (fun s h' => ∃ (i : Nat) (q : GH) (st : Bool × Nat), i ≤ l.length ∧ s = (i : Int) ∧ h' = q.h ∧ Mv KB17 g.base q ∧ RdrC q 6 7 pr (false, out.length) out ∧ RdrC q 8 9 pc st (out.take k) ∧ RdrC q 10 11 pl (false, out.length) (out ++ [more]) ∧ (st.1 = true ∨ st = (false, ((l.take i).flatMap fieldsD).length))) (fun s => l.length - s.toNat)
            ⟨0, q, (false, 0), by omega, rfl, rfl, m, dr, dc, dl, .inr rfl⟩ ?_
          clear m dr dc dl
          rintro X _ _ ⟨i, q, st, hi, rfl, rfl, m, dr, dc, dl, hst⟩ hX
          by_cases hlt : i < l.length
          · rw [if_pos (by first | omega | (simp; omega))]
            by_cases hk2 : k < out.length
            · rw [if_pos (by first | omega | (simp; omega))]
              have hd0 := fields_drop l hlt
              rw [hout] at hd0
              have hsd := size_mem (List.getElem_mem hlt)
              have hgi := hg _ (List.getElem_mem hlt)
              have hoki := hok _ (List.getElem_mem hlt)
              refine (hl.arg m (by simp)).idx (sizeDeed17.trans rfl) (by decide) hlt fun b o cs hcs lay => ?_
              have hcl : cs.length = 4 := lay.length
              refine loadDeed hcs hcl ?_
              refine back17_spec (by decide) (by decide) dc l[i] cs lay (by omega) fun q8 m8 dc => ⟨_, rfl, ?_⟩
              replace m := m.step m8 (by simp)
              replace dl := dl.mv m8 (by simp) (by simp)
              replace dr := dr.mv m8 (by simp) (by simp)
              have hres : (backD (out.take k) st l[i]).2.1 = true ∨ backD (out.take k) st l[i] = (true, (false, ((l.take (i + 1)).flatMap fieldsD).length)) := by
                rcases hst with h | h
                · exact .inl (backD_bad _ _ h)
                · rw [h, fields_take l hlt, List.length_append]
                  rcases backD_ok (agree_cut out k) l[i] hoki hgi (by omega) _ _ hd0 with h | h
                  · exact .inl h.2
                  · exact .inr h
              generalize backD (out.take k) st l[i] = r at dc hres
              obtain ⟨rb, rs⟩ := r
              try dsimp only
              cases rb with
              | true =>
                rw [if_neg (by simp), wrapSucc (by omega)]
                exact hX _ _ ⟨i + 1, q8, rs, by omega, rfl, rfl, m, dr, dc, dl, hres.imp id fun h => (Prod.mk.inj h).2⟩ (by simp; omega)
              | false =>
                rw [if_pos (by simp)]
                exact hJ _ _ ⟨q8, rs, rfl, m, dr, dc, dl, fun _ => hres.imp id fun h => by cases h⟩
            · rw [if_neg (by first | omega | (simp; omega))]
              exact hJ _ _ ⟨q, st, rfl, m, dr, dc, dl, fun h => absurd h hk2⟩
          · rw [if_neg (by first | omega | (simp; omega))]
            have hi' : i = l.length := by omega
            subst hi'
            rw [List.take_length, hout] at hst
            exact hJ _ _ ⟨q, st, rfl, m, dr, dc, dl, fun _ => hst.imp id fun h => by rw [h]⟩
        · rintro _ _ ⟨q, st, rfl, m, dr, dc, dl, hst⟩
          try dsimp only
          rw [if_pos (by rfl)]
          refine rEnd_spec dr ⟨_, rfl, ?_⟩
          have e1 : endR out (false, out.length) = 0 := by simp [endR]
          rw [e1]
          try dsimp only
          rw [if_pos (by rfl)]
          refine rLeft_spec dr ⟨_, rfl, ?_⟩
          try dsimp only
          rw [if_pos (by simp)]
          refine rEnd_spec dl ⟨_, rfl, ?_⟩
          have e2 : endR (out ++ [more]) (false, out.length) = 4 := by simp [endR]
          rw [e2]
          try dsimp only
          rw [if_pos (by rfl)]
          refine rLeft_spec dl ⟨_, rfl, ?_⟩
          have e3 : (out ++ [more]).length - (false, out.length).2 = 1 := by simp
          rw [e3]
          try dsimp only
          rw [if_pos (by rfl)]
          by_cases hk3 : k = out.length
          · rw [if_pos (by simp; omega)]
            exact hfin q m
          · rw [if_neg (by simp; omega)]
            refine rEnd_spec dc ⟨_, rfl, ?_⟩
            have hpos := dc.pos_le
            rw [List.length_take] at hpos
            have e4 : endR (out.take k) st = 4 := by
              unfold endR
              rw [if_pos]
              rcases hst (by omega) with h | h
              · exact .inl h
              · omega
            rw [e4]
            exact hfin q m

theorem CodecBack_walk {h : Heap} (a : Option Addr) (la ca : Nat) (x : List Deed17) (w : Lay h (.sl ShDeed17) x [.slice a la ca]) (at1 : Int) (hat : (Lit.int .i64 at1).wf = true) (more : Int) (hm : (Lit.int .u8 more).wf = true) :
    HC Try.prog F.law17_CodecBack #[.slice a la ca, .int .i64 at1, .int .u8 more] (fun v h' => v = .bool true ∧ Ext h h') h :=
  CodecBack_spec ⟨h, fun _ => 0⟩ ⟨a, la, ca⟩ x (c := 0) (w.arg (Mv.refl [] _) (by simp)) at1 more (wf_i64 hat) (wf_u8 hm) fun g' m => ⟨rfl, m.ext (by simp)⟩

end Go.Proofs.Ytejpfoccooodbaa
