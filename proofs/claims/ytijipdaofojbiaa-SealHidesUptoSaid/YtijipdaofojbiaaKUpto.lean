/-
  What a bound on all that an argument holds says of rows of bytes; a row whose specification bears a condition and whose walk asks that the library's variables are shaped.
-/
import Derived.Test.YtijipdaofojbiaaRows
import Derived.Test.YtijipdaofojbiaaShape
import Derived.JoinedCond
import Derived.SizedLaws
import Derived.HandedShaped
set_option linter.unusedSimpArgs false
set_option linter.unusedVariables false
namespace Go.Proofs.Ytijipdaofojbiaa
open Go Go.Ev

theorem bulkPart {H : Type} {d : DataW H} : ∀ {l : List (DataW H)}, d ∈ l → Rows.uptoBulk d ≤ Rows.uptoBulkAll l
  | x :: r, h => by
    simp only [Rows.uptoBulkAll]
    rcases List.mem_cons.1 h with e | e
    · subst e; omega
    · have := bulkPart e; omega
theorem bulkOne {H : Type} (d : DataW H) : 1 ≤ Rows.uptoBulk d := by
  cases d with
  | lit l => cases l <;> simp [Rows.uptoBulk]
  | _ => simp [Rows.uptoBulk]
theorem bulkLen {H : Type} : ∀ l : List (DataW H), l.length ≤ Rows.uptoBulkAll l
  | [] => by simp [Rows.uptoBulkAll]
  | x :: r => by have := bulkLen r; have := bulkOne x; simp only [Rows.uptoBulkAll, List.length_cons]; omega

section
variable {H : Type} {enc : TypeId × Value → H} {P : Program} {w : World} {base : Nat} {held : Bool}

/-- A row of rows of bytes: no row has more bytes than all that is read of it. -/
theorem bulkRows {t t2 t8 : TypeId} {v : Value} {d : DataW H} {ps : List MemPlace} {xss : List (List Int)} (hu : P.underlying t = some (.slice t2)) (hu2 : P.underlying t2 = some (.slice t8)) (hc2 : P.cellsOf t2 = 1) (h : DataW.Trod enc P w base (fun _ => true) held t v d ps)
    (l : Lay w.heap (.sl (.sl (.int .u8))) xss v.cells.toList) : ∀ xs ∈ xss, xs.length ≤ Rows.uptoBulk d := by
  intro xs hxs
  obtain ⟨i, hi, rfl⟩ := List.mem_iff_getElem.1 hxs
  obtain ⟨fuel, h⟩ := h
  obtain ⟨s, css, hcs, _, h1, h2, _, rd, lay⟩ := l
  rcases DataW.trod_slice hu h with ⟨e, _⟩ | ⟨a, len, cap, elems, rest, k, _, e, e2, _, _, _, hlen, hel, _, _⟩
  · rw [e] at hcs
    have : s.n = 0 := by simpa using (congrArg (fun v => match v with | .slice _ n _ => n | _ => 0) (List.cons.inj hcs).1).symm
    omega
  · rw [e] at hcs
    have hv := (List.cons.inj hcs).1
    have hsn : s.n = len := by simpa using (congrArg (fun v => match v with | .slice _ n _ => n | _ => 0) hv).symm
    have hsa : s.a = some a := by simpa using (congrArg (fun v => match v with | .slice a _ _ => a | _ => none) hv).symm
    have hil : i < len := by omega
    have hic : i < css.length := by omega
    obtain ⟨u, us, hu', _, hul, _⟩ := lay i _ _ (List.getElem?_eq_getElem hi) (List.getElem?_eq_getElem hic)
    have hie : i < elems.length := by omega
    have h3 := hel i hil
    rw [List.getElem?_eq_getElem hie, Option.bind_eq_some_iff, hc2] at h3
    obtain ⟨c, hc, hc'⟩ := h3
    obtain ⟨hcl, hcg⟩ := cells_spec hc
    have hcell := hcg 0 (by omega)
    have hone : ∀ c ∈ css, c.length = 1 := fun c hc => by
      obtain ⟨j, hj, rfl⟩ := List.mem_iff_getElem.1 hc
      exact (lay j _ _ (List.getElem?_eq_getElem (show j < xss.length by omega)) (List.getElem?_eq_getElem hj)).length
    have hfl : css.flatten[i]? = some (.slice u.a u.n u.c) := by
      have := flatten_get css hone i 0 (by omega) hic
      simp only [Nat.mul_one, Nat.add_zero] at this
      rw [this, List.getElem?_eq_getElem hic, Option.bind_some, hu']
      rfl
    have hcu : c[0]? = some (.slice u.a u.n u.c) := by
      rw [← hcell, Nat.mul_one]
      rcases rd.2 with hn | ⟨b, o, cs, ety, fz, ha, hb, hx⟩
      · rw [hn] at hfl; cases hfl
      · rw [hsa] at ha
        obtain rfl : a = ⟨b, o, none⟩ := Option.some.inj ha
        rw [← hfl]
        have hlt : i < css.flatten.length := (List.getElem?_eq_some_iff.1 hfl).1
        simp only [addr_add, Nat.add_zero]
        unfold World.cell?
        simp only [hb]
        simpa using hx i hlt
    have hce : c = [.slice u.a u.n u.c] := by
      match c, hcl, hcu with
      | [x], _, hx => simpa using hx
    rw [hce] at hc'
    have hb : u.n ≤ Rows.uptoBulk elems[i].1 := by
      rcases DataW.trod_slice hu2 hc' with ⟨e, _⟩ | ⟨a', len', cap', elems', rest', k', _, e, e2, _, _, _, hlen', _⟩
      · have : u.n = 0 := by simpa using congrArg (fun v => match v with | .slice _ n _ => n | _ => 0) (List.cons.inj e).1
        omega
      · have : u.n = len' := by simpa using congrArg (fun v => match v with | .slice _ n _ => n | _ => 0) (List.cons.inj e).1
        rw [e2]
        have := bulkLen (elems'.map (·.1))
        simp only [Rows.uptoBulk, List.length_map] at this ⊢
        omega
    have hd : d = .slice (elems.map (·.1)) (rest.map (·.1)) := congrArg Prod.fst e2
    have hp : Rows.uptoBulk elems[i].1 ≤ Rows.uptoBulkAll (elems.map (·.1)) := bulkPart (List.mem_map.2 ⟨_, List.getElem_mem hie, rfl⟩)
    rw [hd]
    simp only [Rows.uptoBulk]
    omega
end

section
variable {H : Type} {enc : TypeId × Value → H}
/-- A specification with a condition: the walk is given it, the reach, and that the library's variables are shaped. -/
theorem handedCond {a : Assume} {C : Checked} {os : Os} {f : FuncId} {fn : Func} {s : OpenSpec} {k : (H : Type) → List (DataW H) → Bool} (hk : s.cond = some k) {F : Stop.Interp} {conds : List PathCond} {apart fresh handsOn again : Bool}
    (own : ownKnob C.prog.godebug = none) (started : os.Started) (noInit : C.prog.inits.idxOf? f = none) (hfn : C.prog.funcs[f]? = some fn)
    (witness : ∃ (w : World) (tape : Tape) (i : Input), w.os = os ∧ (w.forCall tape i).Shaped C.prog ∧ i.vars = [] ∧ Input.okWide C.prog (w.forCall tape i) .any w.heap.size f i ∧
      s.pre6 enc C.prog fn conds apart (w.forCall tape i).memory i.args ∧ a.holds C.prog (lone (Frame.enter C.prog f i.args .normal) [] (w.forCall tape i)))
    (walk : ∀ (W : World) (base : Nat) (args : Array Value) (ds gs : List (DataW H)) (before : List MemPlace),
      (∀ (j : Nat) t v, fn.params[j]? = some t → args[j]? = some v → Value.okWide C.prog W .any base t v) →
      DataW.Whole enc C.prog fn.params.toList s.vars apart W args.toList ds gs before → k H (ds ++ gs) = true →
      (DataW.weightsEach C.prog (fn.params.toList ++ s.bare.plain.varTypes C.prog) (ds ++ gs)).all (· ≤ reachBytes) = true → W.ShapedOpen C.prog →
      Calls C.prog f args W fun e W' => ∃ v, e = .returned v ∧ (s.at F).post enc C.prog fn apart fresh handsOn again W args v W') :
    ReturnsInHanded a C os f .any (s.pre6 enc C.prog fn conds apart) ((s.at F).post enc C.prog fn apart fresh handsOn again) := by
  refine returnsInHanded_of_calls own started noInit witness ?_
  intro w tape i _ hsh _ hok hpre _
  obtain ⟨_, _, _, fn', hfn', _, _, _, _, hval⟩ := hok
  obtain rfl : fn' = fn := Option.some.inj (hfn'.symm.trans hfn)
  obtain ⟨ds, gs, before, hw, _, hkk⟩ := (OpenSpec.pre_some hk conds apart _ _).1 hpre.1
  refine (walk (w.forCall tape i) w.heap.size i.args ds gs before hval (DataW.Whole.of_heap (w' := w.forCall tape i) (by rfl) hw) hkk (hpre.2.weights hw) hsh).mono fun e W' ⟨v, he, hp⟩ => ?_
  subst he
  exact ChangeSpec.post_blind hp
end

end Go.Proofs.Ytijipdaofojbiaa
