/-
  Steps of the model that write to no cell: what stood in memory before stands there behind them. Nothing of a given program stands here.
-/
import Derived.Calls
import Derived.Laws.Sem
set_option linter.unusedSimpArgs false
set_option linter.unusedVariables false
namespace Go.Ev
open Go

/-- A step that writes to no cell. -/
def NS {α : Type} : Sem α → Prop
  | .pure _ => True
  | .load _ _ k => ∀ v, NS (k v)
  | .store .. => False
  | .new _ k => ∀ r, NS (k r)
  | .shape _ k => ∀ s, NS (k s)
  | .freeze _ _ k => NS k
  | .frozen _ k => ∀ b, NS (k b)
  | .getObj _ k => ∀ o, NS (k o)
  | .setObj .. => False
  | .choose _ k => ∀ n, NS (k n)
  | .sys .. => False
  | .program k => ∀ p, NS (k p)
  | .mark _ k => NS k
  | .halt _ => True

/-- Each row of cells is still there (new blocks may be, and marks). -/
def HExt (h h' : Array Obj) : Prop := ∀ (b : Nat) (c : Array Value) (e : TypeId) (fz : Nat × Nat), h[b]? = some (Obj.cells c e fz) → ∃ fz' : Nat × Nat, h'[b]? = some (Obj.cells c e fz')

theorem HExt.refl (h : Array Obj) : HExt h h := fun b c e fz hb => ⟨fz, hb⟩
theorem HExt.trans {a b c : Array Obj} (h : HExt a b) (k : HExt b c) : HExt a c := fun i x e fz hi => by
  obtain ⟨fz', h1⟩ := h i x e fz hi
  exact k i x e fz' h1

theorem HExt.push (h : Array Obj) (o : Obj) : HExt h (h.push o) := fun b c e fz hb => by
  have hlt : b < h.size := (Array.getElem?_eq_some_iff.1 hb).1
  exact ⟨fz, by rw [Array.getElem?_push_lt hlt, ← Array.getElem?_eq_getElem hlt]; exact hb⟩

theorem HExt.freeze (w : World) (a : Addr) (n : Nat) : HExt w.heap (w.freeze a n).heap := fun b c e fz hb => by
  unfold World.freeze
  split
  · exact ⟨fz, hb⟩
  · simp only [Array.getElem?_modify]
    split
    · rename_i hab
      rw [hb]
      obtain ⟨lo, hi⟩ := fz
      exact ⟨_, rfl⟩
    · exact ⟨fz, hb⟩

def worldOf {α : Type} : Result α → World
  | .ok _ w => w
  | .halt _ w => w

theorem NS.run {P : Program} {α : Type} : ∀ (s : Sem α), NS s → ∀ (w : World), HExt w.heap (worldOf (s.run P w)).heap := by
  intro s
  induction s with
  | pure a => intro _ w; exact HExt.refl _
  | load m a k ih =>
    intro h w
    simp only [Sem.run]
    split
    · exact ih _ (h _) w
    · split
      · exact ih _ (h _) w
      · exact HExt.refl _
  | store m a v k ih => intro h; exact h.elim
  | new o k ih =>
    intro h w
    exact (HExt.push _ _).trans (ih _ (h w.heap.size) { w with heap := w.heap.push o })
  | shape r k ih => intro h w; exact ih _ (h _) w
  | freeze a n k ih => intro h w; exact (HExt.freeze w a n).trans (ih h (w.freeze a n))
  | frozen a k ih => intro h w; exact ih _ (h _) w
  | getObj r k ih =>
    intro h w
    simp only [Sem.run]
    split
    · exact HExt.refl _
    · exact ih _ (h _) w
    · exact HExt.refl _
  | setObj r o k ih => intro h; exact h.elim
  | choose q k ih =>
    intro h w
    simp only [Sem.run]
    split
    · exact ih _ (h _) w
    · exact ih _ (h _) { w with drawn := w.drawn + 1 }
  | sys c k ih => intro h; exact h.elim
  | program k ih => intro h w; exact ih _ (h _) w
  | mark m k ih => intro h w; exact ih h w
  | halt x => intro _ w; exact HExt.refl _

theorem NS.bind' {α β : Type} : ∀ (s : Sem α) (f : α → Sem β), NS s → (∀ a, NS (f a)) → NS (s.bind f) := by
  intro s f
  induction s with
  | pure a => intro _ h; exact h a
  | load m a k ih => intro h hf v; exact ih v (h v) hf
  | store m a v k ih => intro h; exact h.elim
  | new o k ih => intro h hf r; exact ih r (h r) hf
  | shape r k ih => intro h hf s; exact ih s (h s) hf
  | freeze a n k ih => intro h hf; exact ih h hf
  | frozen a k ih => intro h hf b; exact ih b (h b) hf
  | getObj r k ih => intro h hf o; exact ih o (h o) hf
  | setObj r o k ih => intro h; exact h.elim
  | choose q k ih => intro h hf n; exact ih n (h n) hf
  | sys c k ih => intro h; exact h.elim
  | program k ih => intro h hf p; exact ih p (h p) hf
  | mark m k ih => intro h hf; exact ih h hf
  | halt x => intro _ _; trivial

theorem NS.bind {α β : Type} {s : Sem α} {f : α → Sem β} (h : NS s) (hf : ∀ a, NS (f a)) : NS (s >>= f) := NS.bind' s f h hf
theorem NS.map {α β : Type} {s : Sem α} {f : α → β} (h : NS s) : NS (f <$> s) := NS.bind' s _ h fun _ => trivial
theorem NS.pure {α : Type} (a : α) : NS (Pure.pure a : Sem α) := trivial
theorem NS.stuck {α : Type} (s : String) : NS (stuck s : Sem α) := trivial
theorem NS.unsupported {α : Type} (u : Unsupported) : NS (unsupported u : Sem α) := trivial
theorem NS.load (a : Addr) (m : Mode) : NS (load a m) := fun _ => trivial
theorem NS.program : NS program := fun _ => trivial
theorem NS.shape (r : Nat) : NS (shape r) := fun _ => trivial
theorem NS.frozen (a : Addr) : NS (frozen a) := fun _ => trivial
theorem NS.getObj (r : Nat) : NS (getObj r) := fun _ => trivial
theorem NS.choose (q : Question) : NS (choose q) := fun _ => trivial
theorem NS.newObj (o : Obj) : NS (newObj o) := fun _ => trivial
theorem NS.freeze (a : Addr) (n : Nat) : NS (freeze a n) := trivial
theorem NS.mark (m : Mark) : NS (mark m) := trivial
theorem NS.goPanic {α : Type} (v : Value) : NS (goPanic v : Sem α) := trivial

theorem NS.forIn_list {α β : Type} (f : α → β → Sem (ForInStep β)) (hf : ∀ a b, NS (f a b)) : ∀ (l : List α) (b : β), NS (forIn l b f)
  | [], b => trivial
  | a :: l, b => by
    rw [List.forIn_cons]
    refine NS.bind (hf a b) fun r => ?_
    cases r with
    | done b => exact NS.pure _
    | yield b => exact NS.forIn_list f hf l b

theorem NS.forIn_array {α β : Type} (f : α → β → Sem (ForInStep β)) (hf : ∀ a b, NS (f a b)) (xs : Array α) (b : β) : NS (forIn xs b f) := by
  rw [← Array.forIn_toList]
  exact NS.forIn_list f hf _ _

theorem NS.forIn_range {β : Type} (f : Nat → β → Sem (ForInStep β)) (hf : ∀ a b, NS (f a b)) (r : Std.Legacy.Range) (b : β) : NS (forIn r b f) := by
  rw [Std.Legacy.Range.forIn_eq_forIn_range']
  exact NS.forIn_list f hf _ _

theorem NS.typeInfo (t : TypeId) : NS (typeInfo t) := by
  unfold Go.typeInfo
  refine NS.bind NS.program fun p => ?_
  split <;> first | exact NS.pure _ | exact NS.stuck _
theorem NS.underlying (t : TypeId) : NS (underlying t) := by
  unfold Go.underlying
  refine NS.bind NS.program fun p => ?_
  split <;> first | exact NS.pure _ | exact NS.stuck _
theorem NS.zeroValue (t : TypeId) : NS (zeroValue t) := by
  unfold Go.zeroValue
  refine NS.bind (NS.typeInfo t) fun p => ?_
  split <;> first | exact NS.pure _ | exact NS.unsupported _
theorem NS.sizeOf (t : TypeId) : NS (sizeOf t) := NS.bind (NS.typeInfo t) fun _ => NS.pure _
theorem NS.isAgg (t : TypeId) : NS (isAgg t) := by
  unfold Go.isAgg
  refine NS.bind (NS.underlying t) fun p => ?_
  split <;> exact NS.pure _
theorem NS.loadCellsFrom (a : Addr) : ∀ (n i : Nat) (acc : Array Value), NS (loadCellsFrom a i n acc)
  | 0, i, acc => NS.pure _
  | n + 1, i, acc => NS.bind (NS.load _ _) fun v => NS.loadCellsFrom a n (i + 1) _
theorem NS.loadCells (a : Addr) (n : Nat) : NS (loadCells a n) := NS.loadCellsFrom a n 0 _
theorem NS.loadVar (t : TypeId) (a : Addr) : NS (loadVar t a) := by
  unfold Go.loadVar
  refine NS.bind (NS.isAgg t) fun b => ?_
  split
  · exact NS.bind (NS.sizeOf t) fun n => NS.bind (NS.loadCells a n) fun _ => NS.pure _
  · exact NS.load _ _
theorem NS.newRow (t : TypeId) (cs : Array Value) : NS (newRow t cs) := NS.bind (NS.newObj _) fun _ => NS.pure _
theorem NS.newVar (t : TypeId) (v : Value) : NS (newVar t v) := NS.newRow _ _
theorem NS.elemOf (t : TypeId) : NS (elemOf t) := by
  unfold Go.elemOf
  refine NS.bind (NS.underlying t) fun d => ?_
  split <;> first | exact NS.pure _ | exact NS.stuck _
theorem NS.runtimePanic {α : Type} (e : RuntimeError) : NS (runtimePanic e : Sem α) := by
  unfold Go.runtimePanic
  refine NS.bind NS.program fun p => ?_
  cases e <;> first
    | with_reducible exact NS.goPanic _
    | with_reducible exact NS.bind (NS.elemOf _) fun _ => NS.bind (NS.newVar _ _) fun _ => NS.goPanic _
theorem NS.boundsPanic {α : Type} (k : IntKind) (x y : Int) (c : BoundsCode) : NS (boundsPanic k x y c : Sem α) := by
  unfold Go.boundsPanic
  dsimp only
  split
  · exact NS.bind (NS.map (NS.choose _)) fun _ => NS.runtimePanic _
  · exact NS.bind (NS.pure _) fun _ => NS.runtimePanic _
theorem NS.asIntOf (v : Value) : NS (asIntOf v) := by
  unfold Go.asIntOf
  split <;> first | exact NS.pure _ | exact NS.unsupported _ | exact NS.stuck _
theorem NS.asInt (v : Value) : NS (asInt v) := NS.bind (NS.asIntOf v) fun _ => NS.pure _
theorem NS.asBool (v : Value) : NS (asBool v) := by unfold Go.asBool; split <;> first | exact NS.pure _ | exact NS.stuck _
theorem NS.asAgg (v : Value) : NS (asAgg v) := by unfold Go.asAgg; split <;> first | exact NS.pure _ | exact NS.stuck _
theorem NS.asAddr (v : Value) : NS (asAddr v) := by unfold Go.asAddr; split <;> first | exact NS.pure _ | exact NS.runtimePanic _ | exact NS.stuck _
theorem NS.sureAddr (v : Value) : NS (Instr.sureAddr v) := by unfold Instr.sureAddr; split <;> first | exact NS.pure _ | exact NS.stuck _
theorem NS.part (t : TypeId) (cs : Array Value) (o : Nat) : NS (part t cs o) := by
  unfold Go.part
  refine NS.bind (NS.isAgg t) fun b => ?_
  split
  · exact NS.bind (NS.sizeOf t) fun _ => NS.pure _
  · split <;> first | exact NS.pure _ | exact NS.stuck _

theorem NS.loadAt (t : TypeId) (v : Value) : NS (Instr.loadAt t v) := NS.bind (NS.sureAddr v) fun a => NS.loadVar t a
theorem NS.mapM_list {α β : Type} (f : α → Sem β) (hf : ∀ a, NS (f a)) : ∀ l : List α, NS (l.mapM f)
  | [] => by rw [List.mapM_nil]; exact NS.pure _
  | a :: l => by
    rw [List.mapM_cons]
    exact NS.bind (hf a) fun _ => NS.bind (NS.mapM_list f hf l) fun _ => NS.pure _
theorem NS.mapM_array {α β : Type} (f : α → Sem β) (hf : ∀ a, NS (f a)) (xs : Array α) : NS (xs.mapM f) := by
  rw [Array.mapM_eq_mapM_toList]
  exact NS.map (NS.mapM_list f hf _)
theorem NS.askRoom (n : Nat) : NS (askRoom n) := by unfold Go.askRoom; split <;> first | exact NS.mark _ | exact NS.pure _
theorem NS.indexAt (t : TypeId) (x i : Value) : NS (Instr.indexAt t x i) := by
  unfold Instr.indexAt
  repeat' first
    | with_reducible exact NS.pure _
    | with_reducible exact NS.stuck _
    | with_reducible exact NS.unsupported _
    | with_reducible exact NS.boundsPanic _ _ _ _
    | with_reducible exact NS.runtimePanic _
    | with_reducible exact NS.goPanic _
    | with_reducible exact NS.sizeOf _
    | with_reducible exact NS.typeInfo _
    | with_reducible exact NS.underlying _
    | with_reducible exact NS.zeroValue _
    | with_reducible exact NS.isAgg _
    | with_reducible exact NS.sureAddr _
    | with_reducible exact NS.asIntOf _
    | with_reducible exact NS.asInt _
    | with_reducible exact NS.asBool _
    | with_reducible exact NS.asAgg _
    | with_reducible exact NS.asAddr _
    | with_reducible exact NS.part _ _ _
    | with_reducible exact NS.program
    | with_reducible exact NS.choose _
    | with_reducible exact NS.shape _
    | with_reducible exact NS.frozen _
    | with_reducible exact NS.getObj _
    | with_reducible exact NS.newRow _ _
    | with_reducible exact NS.newVar _ _
    | with_reducible exact NS.newObj _
    | with_reducible exact NS.freeze _ _
    | with_reducible exact NS.mark _
    | with_reducible exact NS.load _ _
    | with_reducible exact NS.loadCells _ _
    | with_reducible exact NS.loadVar _ _
    | (with_reducible refine NS.bind ?_ fun _ => ?_)
    | (with_reducible refine NS.map ?_)
    | (with_reducible refine NS.forIn_array _ (fun _ _ => ?_) _ _)
    | (with_reducible refine NS.forIn_range _ (fun _ _ => ?_) _ _)
    | (with_reducible refine NS.forIn_list _ (fun _ _ => ?_) _ _)
    | split
    | dsimp only

theorem NS.index (t : TypeId) (x i : Value) : NS (Instr.index t x i) := by
  unfold Instr.index
  repeat' first
    | with_reducible exact NS.pure _
    | with_reducible exact NS.stuck _
    | with_reducible exact NS.unsupported _
    | with_reducible exact NS.boundsPanic _ _ _ _
    | with_reducible exact NS.runtimePanic _
    | with_reducible exact NS.goPanic _
    | with_reducible exact NS.sizeOf _
    | with_reducible exact NS.typeInfo _
    | with_reducible exact NS.underlying _
    | with_reducible exact NS.zeroValue _
    | with_reducible exact NS.isAgg _
    | with_reducible exact NS.sureAddr _
    | with_reducible exact NS.asIntOf _
    | with_reducible exact NS.asInt _
    | with_reducible exact NS.asBool _
    | with_reducible exact NS.asAgg _
    | with_reducible exact NS.asAddr _
    | with_reducible exact NS.part _ _ _
    | with_reducible exact NS.program
    | with_reducible exact NS.choose _
    | with_reducible exact NS.shape _
    | with_reducible exact NS.frozen _
    | with_reducible exact NS.getObj _
    | with_reducible exact NS.newRow _ _
    | with_reducible exact NS.newVar _ _
    | with_reducible exact NS.newObj _
    | with_reducible exact NS.freeze _ _
    | with_reducible exact NS.mark _
    | with_reducible exact NS.load _ _
    | with_reducible exact NS.loadCells _ _
    | with_reducible exact NS.loadVar _ _
    | (with_reducible refine NS.bind ?_ fun _ => ?_)
    | (with_reducible refine NS.map ?_)
    | (with_reducible refine NS.forIn_array _ (fun _ _ => ?_) _ _)
    | (with_reducible refine NS.forIn_range _ (fun _ _ => ?_) _ _)
    | (with_reducible refine NS.forIn_list _ (fun _ _ => ?_) _ _)
    | split
    | dsimp only

theorem NS.field (t : TypeId) (x : Value) (f : Nat) : NS (Instr.field t x f) := by
  unfold Instr.field
  repeat' first
    | with_reducible exact NS.pure _
    | with_reducible exact NS.stuck _
    | with_reducible exact NS.unsupported _
    | with_reducible exact NS.boundsPanic _ _ _ _
    | with_reducible exact NS.runtimePanic _
    | with_reducible exact NS.goPanic _
    | with_reducible exact NS.sizeOf _
    | with_reducible exact NS.typeInfo _
    | with_reducible exact NS.underlying _
    | with_reducible exact NS.zeroValue _
    | with_reducible exact NS.isAgg _
    | with_reducible exact NS.sureAddr _
    | with_reducible exact NS.asIntOf _
    | with_reducible exact NS.asInt _
    | with_reducible exact NS.asBool _
    | with_reducible exact NS.asAgg _
    | with_reducible exact NS.asAddr _
    | with_reducible exact NS.part _ _ _
    | with_reducible exact NS.program
    | with_reducible exact NS.choose _
    | with_reducible exact NS.shape _
    | with_reducible exact NS.frozen _
    | with_reducible exact NS.getObj _
    | with_reducible exact NS.newRow _ _
    | with_reducible exact NS.newVar _ _
    | with_reducible exact NS.newObj _
    | with_reducible exact NS.freeze _ _
    | with_reducible exact NS.mark _
    | with_reducible exact NS.load _ _
    | with_reducible exact NS.loadCells _ _
    | with_reducible exact NS.loadVar _ _
    | (with_reducible refine NS.bind ?_ fun _ => ?_)
    | (with_reducible refine NS.map ?_)
    | (with_reducible refine NS.forIn_array _ (fun _ _ => ?_) _ _)
    | (with_reducible refine NS.forIn_range _ (fun _ _ => ?_) _ _)
    | (with_reducible refine NS.forIn_list _ (fun _ _ => ?_) _ _)
    | split
    | dsimp only

theorem NS.viewAt (r : Nat) : NS (viewAt r) := by
  unfold Go.viewAt
  repeat' first
    | with_reducible exact NS.pure _
    | with_reducible exact NS.stuck _
    | with_reducible exact NS.unsupported _
    | with_reducible exact NS.boundsPanic _ _ _ _
    | with_reducible exact NS.runtimePanic _
    | with_reducible exact NS.goPanic _
    | with_reducible exact NS.sizeOf _
    | with_reducible exact NS.typeInfo _
    | with_reducible exact NS.underlying _
    | with_reducible exact NS.zeroValue _
    | with_reducible exact NS.isAgg _
    | with_reducible exact NS.sureAddr _
    | with_reducible exact NS.asIntOf _
    | with_reducible exact NS.asInt _
    | with_reducible exact NS.asBool _
    | with_reducible exact NS.asAgg _
    | with_reducible exact NS.asAddr _
    | with_reducible exact NS.part _ _ _
    | with_reducible exact NS.program
    | with_reducible exact NS.choose _
    | with_reducible exact NS.shape _
    | with_reducible exact NS.frozen _
    | with_reducible exact NS.getObj _
    | with_reducible exact NS.newRow _ _
    | with_reducible exact NS.newVar _ _
    | with_reducible exact NS.newObj _
    | with_reducible exact NS.freeze _ _
    | with_reducible exact NS.mark _
    | with_reducible exact NS.load _ _
    | with_reducible exact NS.loadCells _ _
    | with_reducible exact NS.loadVar _ _
    | (with_reducible refine NS.bind ?_ fun _ => ?_)
    | (with_reducible refine NS.map ?_)
    | (with_reducible refine NS.forIn_array _ (fun _ _ => ?_) _ _)
    | (with_reducible refine NS.forIn_range _ (fun _ _ => ?_) _ _)
    | (with_reducible refine NS.forIn_list _ (fun _ _ => ?_) _ _)
    | split
    | dsimp only

theorem NS.noView (a : Addr) : NS (noView a) := by
  unfold Go.noView
  repeat' first
    | with_reducible exact NS.pure _
    | with_reducible exact NS.stuck _
    | with_reducible exact NS.unsupported _
    | with_reducible exact NS.boundsPanic _ _ _ _
    | with_reducible exact NS.runtimePanic _
    | with_reducible exact NS.goPanic _
    | with_reducible exact NS.sizeOf _
    | with_reducible exact NS.typeInfo _
    | with_reducible exact NS.underlying _
    | with_reducible exact NS.zeroValue _
    | with_reducible exact NS.isAgg _
    | with_reducible exact NS.sureAddr _
    | with_reducible exact NS.asIntOf _
    | with_reducible exact NS.asInt _
    | with_reducible exact NS.asBool _
    | with_reducible exact NS.asAgg _
    | with_reducible exact NS.asAddr _
    | with_reducible exact NS.part _ _ _
    | with_reducible exact NS.program
    | with_reducible exact NS.choose _
    | with_reducible exact NS.shape _
    | with_reducible exact NS.frozen _
    | with_reducible exact NS.getObj _
    | with_reducible exact NS.newRow _ _
    | with_reducible exact NS.newVar _ _
    | with_reducible exact NS.newObj _
    | with_reducible exact NS.freeze _ _
    | with_reducible exact NS.mark _
    | with_reducible exact NS.load _ _
    | with_reducible exact NS.loadCells _ _
    | with_reducible exact NS.loadVar _ _
    | with_reducible exact NS.viewAt _
    | (with_reducible refine NS.bind ?_ fun _ => ?_)
    | (with_reducible refine NS.map ?_)
    | (with_reducible refine NS.forIn_array _ (fun _ _ => ?_) _ _)
    | (with_reducible refine NS.forIn_range _ (fun _ _ => ?_) _ _)
    | (with_reducible refine NS.forIn_list _ (fun _ _ => ?_) _ _)
    | split
    | dsimp only

theorem NS.byteOf (a : Addr) : NS (byteOf a) := by
  unfold Go.byteOf
  repeat' first
    | with_reducible exact NS.pure _
    | with_reducible exact NS.stuck _
    | with_reducible exact NS.unsupported _
    | with_reducible exact NS.boundsPanic _ _ _ _
    | with_reducible exact NS.runtimePanic _
    | with_reducible exact NS.goPanic _
    | with_reducible exact NS.sizeOf _
    | with_reducible exact NS.typeInfo _
    | with_reducible exact NS.underlying _
    | with_reducible exact NS.zeroValue _
    | with_reducible exact NS.isAgg _
    | with_reducible exact NS.sureAddr _
    | with_reducible exact NS.asIntOf _
    | with_reducible exact NS.asInt _
    | with_reducible exact NS.asBool _
    | with_reducible exact NS.asAgg _
    | with_reducible exact NS.asAddr _
    | with_reducible exact NS.part _ _ _
    | with_reducible exact NS.program
    | with_reducible exact NS.choose _
    | with_reducible exact NS.shape _
    | with_reducible exact NS.frozen _
    | with_reducible exact NS.getObj _
    | with_reducible exact NS.newRow _ _
    | with_reducible exact NS.newVar _ _
    | with_reducible exact NS.newObj _
    | with_reducible exact NS.freeze _ _
    | with_reducible exact NS.mark _
    | with_reducible exact NS.load _ _
    | with_reducible exact NS.loadCells _ _
    | with_reducible exact NS.loadVar _ _
    | with_reducible exact NS.noView _
    | (with_reducible refine NS.bind ?_ fun _ => ?_)
    | (with_reducible refine NS.map ?_)
    | (with_reducible refine NS.forIn_array _ (fun _ _ => ?_) _ _)
    | (with_reducible refine NS.forIn_range _ (fun _ _ => ?_) _ _)
    | (with_reducible refine NS.forIn_list _ (fun _ _ => ?_) _ _)
    | split
    | dsimp only

theorem NS.partAt (a : Addr) (m n : Nat) : NS (partAt a m n) := by
  unfold Go.partAt
  repeat' first
    | with_reducible exact NS.pure _
    | with_reducible exact NS.stuck _
    | with_reducible exact NS.unsupported _
    | with_reducible exact NS.boundsPanic _ _ _ _
    | with_reducible exact NS.runtimePanic _
    | with_reducible exact NS.goPanic _
    | with_reducible exact NS.sizeOf _
    | with_reducible exact NS.typeInfo _
    | with_reducible exact NS.underlying _
    | with_reducible exact NS.zeroValue _
    | with_reducible exact NS.isAgg _
    | with_reducible exact NS.sureAddr _
    | with_reducible exact NS.asIntOf _
    | with_reducible exact NS.asInt _
    | with_reducible exact NS.asBool _
    | with_reducible exact NS.asAgg _
    | with_reducible exact NS.asAddr _
    | with_reducible exact NS.part _ _ _
    | with_reducible exact NS.program
    | with_reducible exact NS.choose _
    | with_reducible exact NS.shape _
    | with_reducible exact NS.frozen _
    | with_reducible exact NS.getObj _
    | with_reducible exact NS.newRow _ _
    | with_reducible exact NS.newVar _ _
    | with_reducible exact NS.newObj _
    | with_reducible exact NS.freeze _ _
    | with_reducible exact NS.mark _
    | with_reducible exact NS.load _ _
    | with_reducible exact NS.loadCells _ _
    | with_reducible exact NS.loadVar _ _
    | with_reducible exact NS.byteOf _
    | (with_reducible refine NS.bind ?_ fun _ => ?_)
    | (with_reducible refine NS.map ?_)
    | (with_reducible refine NS.forIn_array _ (fun _ _ => ?_) _ _)
    | (with_reducible refine NS.forIn_range _ (fun _ _ => ?_) _ _)
    | (with_reducible refine NS.forIn_list _ (fun _ _ => ?_) _ _)
    | split
    | dsimp only

theorem NS.fieldPlace (a : Addr) (f : Field) : NS (fieldPlace a f) := by
  unfold Go.fieldPlace
  repeat' first
    | with_reducible exact NS.pure _
    | with_reducible exact NS.stuck _
    | with_reducible exact NS.unsupported _
    | with_reducible exact NS.boundsPanic _ _ _ _
    | with_reducible exact NS.runtimePanic _
    | with_reducible exact NS.goPanic _
    | with_reducible exact NS.sizeOf _
    | with_reducible exact NS.typeInfo _
    | with_reducible exact NS.underlying _
    | with_reducible exact NS.zeroValue _
    | with_reducible exact NS.isAgg _
    | with_reducible exact NS.sureAddr _
    | with_reducible exact NS.asIntOf _
    | with_reducible exact NS.asInt _
    | with_reducible exact NS.asBool _
    | with_reducible exact NS.asAgg _
    | with_reducible exact NS.asAddr _
    | with_reducible exact NS.part _ _ _
    | with_reducible exact NS.program
    | with_reducible exact NS.choose _
    | with_reducible exact NS.shape _
    | with_reducible exact NS.frozen _
    | with_reducible exact NS.getObj _
    | with_reducible exact NS.newRow _ _
    | with_reducible exact NS.newVar _ _
    | with_reducible exact NS.newObj _
    | with_reducible exact NS.freeze _ _
    | with_reducible exact NS.mark _
    | with_reducible exact NS.load _ _
    | with_reducible exact NS.loadCells _ _
    | with_reducible exact NS.loadVar _ _
    | with_reducible exact NS.partAt _ _ _
    | (with_reducible refine NS.bind ?_ fun _ => ?_)
    | (with_reducible refine NS.map ?_)
    | (with_reducible refine NS.forIn_array _ (fun _ _ => ?_) _ _)
    | (with_reducible refine NS.forIn_range _ (fun _ _ => ?_) _ _)
    | (with_reducible refine NS.forIn_list _ (fun _ _ => ?_) _ _)
    | split
    | dsimp only

theorem NS.fieldAt (t : TypeId) (x : Value) (f : Nat) : NS (Instr.fieldAt t x f) := by
  unfold Instr.fieldAt
  repeat' first
    | with_reducible exact NS.pure _
    | with_reducible exact NS.stuck _
    | with_reducible exact NS.unsupported _
    | with_reducible exact NS.boundsPanic _ _ _ _
    | with_reducible exact NS.runtimePanic _
    | with_reducible exact NS.goPanic _
    | with_reducible exact NS.sizeOf _
    | with_reducible exact NS.typeInfo _
    | with_reducible exact NS.underlying _
    | with_reducible exact NS.zeroValue _
    | with_reducible exact NS.isAgg _
    | with_reducible exact NS.sureAddr _
    | with_reducible exact NS.asIntOf _
    | with_reducible exact NS.asInt _
    | with_reducible exact NS.asBool _
    | with_reducible exact NS.asAgg _
    | with_reducible exact NS.asAddr _
    | with_reducible exact NS.part _ _ _
    | with_reducible exact NS.program
    | with_reducible exact NS.choose _
    | with_reducible exact NS.shape _
    | with_reducible exact NS.frozen _
    | with_reducible exact NS.getObj _
    | with_reducible exact NS.newRow _ _
    | with_reducible exact NS.newVar _ _
    | with_reducible exact NS.newObj _
    | with_reducible exact NS.freeze _ _
    | with_reducible exact NS.mark _
    | with_reducible exact NS.load _ _
    | with_reducible exact NS.loadCells _ _
    | with_reducible exact NS.loadVar _ _
    | with_reducible exact NS.fieldPlace _ _
    | (with_reducible refine NS.bind ?_ fun _ => ?_)
    | (with_reducible refine NS.map ?_)
    | (with_reducible refine NS.forIn_array _ (fun _ _ => ?_) _ _)
    | (with_reducible refine NS.forIn_range _ (fun _ _ => ?_) _ _)
    | (with_reducible refine NS.forIn_list _ (fun _ _ => ?_) _ _)
    | split
    | dsimp only

theorem NS.sliceBound (x : Value) (y : Nat) (c : BoundsCode) : NS (Instr.sliceBound x y c) := by
  unfold Instr.sliceBound
  repeat' first
    | with_reducible exact NS.pure _
    | with_reducible exact NS.stuck _
    | with_reducible exact NS.unsupported _
    | with_reducible exact NS.boundsPanic _ _ _ _
    | with_reducible exact NS.runtimePanic _
    | with_reducible exact NS.goPanic _
    | with_reducible exact NS.sizeOf _
    | with_reducible exact NS.typeInfo _
    | with_reducible exact NS.underlying _
    | with_reducible exact NS.zeroValue _
    | with_reducible exact NS.isAgg _
    | with_reducible exact NS.sureAddr _
    | with_reducible exact NS.asIntOf _
    | with_reducible exact NS.asInt _
    | with_reducible exact NS.asBool _
    | with_reducible exact NS.asAgg _
    | with_reducible exact NS.asAddr _
    | with_reducible exact NS.part _ _ _
    | with_reducible exact NS.program
    | with_reducible exact NS.choose _
    | with_reducible exact NS.shape _
    | with_reducible exact NS.frozen _
    | with_reducible exact NS.getObj _
    | with_reducible exact NS.newRow _ _
    | with_reducible exact NS.newVar _ _
    | with_reducible exact NS.newObj _
    | with_reducible exact NS.freeze _ _
    | with_reducible exact NS.mark _
    | with_reducible exact NS.load _ _
    | with_reducible exact NS.loadCells _ _
    | with_reducible exact NS.loadVar _ _
    | (with_reducible refine NS.bind ?_ fun _ => ?_)
    | (with_reducible refine NS.map ?_)
    | (with_reducible refine NS.forIn_array _ (fun _ _ => ?_) _ _)
    | (with_reducible refine NS.forIn_range _ (fun _ _ => ?_) _ _)
    | (with_reducible refine NS.forIn_list _ (fun _ _ => ?_) _ _)
    | split
    | dsimp only

theorem NS.sliceBounds (b : Bool) (l c : Nat) (x y z : Option Value) : NS (Instr.sliceBounds b l c x y z) := by
  unfold Instr.sliceBounds
  repeat' first
    | with_reducible exact NS.pure _
    | with_reducible exact NS.stuck _
    | with_reducible exact NS.unsupported _
    | with_reducible exact NS.boundsPanic _ _ _ _
    | with_reducible exact NS.runtimePanic _
    | with_reducible exact NS.goPanic _
    | with_reducible exact NS.sizeOf _
    | with_reducible exact NS.typeInfo _
    | with_reducible exact NS.underlying _
    | with_reducible exact NS.zeroValue _
    | with_reducible exact NS.isAgg _
    | with_reducible exact NS.sureAddr _
    | with_reducible exact NS.asIntOf _
    | with_reducible exact NS.asInt _
    | with_reducible exact NS.asBool _
    | with_reducible exact NS.asAgg _
    | with_reducible exact NS.asAddr _
    | with_reducible exact NS.part _ _ _
    | with_reducible exact NS.program
    | with_reducible exact NS.choose _
    | with_reducible exact NS.shape _
    | with_reducible exact NS.frozen _
    | with_reducible exact NS.getObj _
    | with_reducible exact NS.newRow _ _
    | with_reducible exact NS.newVar _ _
    | with_reducible exact NS.newObj _
    | with_reducible exact NS.freeze _ _
    | with_reducible exact NS.mark _
    | with_reducible exact NS.load _ _
    | with_reducible exact NS.loadCells _ _
    | with_reducible exact NS.loadVar _ _
    | with_reducible exact NS.sliceBound _ _ _
    | (with_reducible refine NS.bind ?_ fun _ => ?_)
    | (with_reducible refine NS.map ?_)
    | (with_reducible refine NS.forIn_array _ (fun _ _ => ?_) _ _)
    | (with_reducible refine NS.forIn_range _ (fun _ _ => ?_) _ _)
    | (with_reducible refine NS.forIn_list _ (fun _ _ => ?_) _ _)
    | split
    | dsimp only

theorem NS.slice (t : TypeId) (x : Value) (l h m : Option Value) : NS (Instr.slice t x l h m) := by
  unfold Instr.slice
  repeat' first
    | with_reducible exact NS.pure _
    | with_reducible exact NS.stuck _
    | with_reducible exact NS.unsupported _
    | with_reducible exact NS.boundsPanic _ _ _ _
    | with_reducible exact NS.runtimePanic _
    | with_reducible exact NS.goPanic _
    | with_reducible exact NS.sizeOf _
    | with_reducible exact NS.typeInfo _
    | with_reducible exact NS.underlying _
    | with_reducible exact NS.zeroValue _
    | with_reducible exact NS.isAgg _
    | with_reducible exact NS.sureAddr _
    | with_reducible exact NS.asIntOf _
    | with_reducible exact NS.asInt _
    | with_reducible exact NS.asBool _
    | with_reducible exact NS.asAgg _
    | with_reducible exact NS.asAddr _
    | with_reducible exact NS.part _ _ _
    | with_reducible exact NS.program
    | with_reducible exact NS.choose _
    | with_reducible exact NS.shape _
    | with_reducible exact NS.frozen _
    | with_reducible exact NS.getObj _
    | with_reducible exact NS.newRow _ _
    | with_reducible exact NS.newVar _ _
    | with_reducible exact NS.newObj _
    | with_reducible exact NS.freeze _ _
    | with_reducible exact NS.mark _
    | with_reducible exact NS.load _ _
    | with_reducible exact NS.loadCells _ _
    | with_reducible exact NS.loadVar _ _
    | with_reducible exact NS.sliceBounds _ _ _ _ _ _
    | (with_reducible refine NS.bind ?_ fun _ => ?_)
    | (with_reducible refine NS.map ?_)
    | (with_reducible refine NS.forIn_array _ (fun _ _ => ?_) _ _)
    | (with_reducible refine NS.forIn_range _ (fun _ _ => ?_) _ _)
    | (with_reducible refine NS.forIn_list _ (fun _ _ => ?_) _ _)
    | split
    | dsimp only

theorem NS.sliceAt (t : TypeId) (x : Value) (l h m : Option Value) : NS (Instr.sliceAt t x l h m) := by
  unfold Instr.sliceAt
  repeat' first
    | with_reducible exact NS.pure _
    | with_reducible exact NS.stuck _
    | with_reducible exact NS.unsupported _
    | with_reducible exact NS.boundsPanic _ _ _ _
    | with_reducible exact NS.runtimePanic _
    | with_reducible exact NS.goPanic _
    | with_reducible exact NS.sizeOf _
    | with_reducible exact NS.typeInfo _
    | with_reducible exact NS.underlying _
    | with_reducible exact NS.zeroValue _
    | with_reducible exact NS.isAgg _
    | with_reducible exact NS.sureAddr _
    | with_reducible exact NS.asIntOf _
    | with_reducible exact NS.asInt _
    | with_reducible exact NS.asBool _
    | with_reducible exact NS.asAgg _
    | with_reducible exact NS.asAddr _
    | with_reducible exact NS.part _ _ _
    | with_reducible exact NS.program
    | with_reducible exact NS.choose _
    | with_reducible exact NS.shape _
    | with_reducible exact NS.frozen _
    | with_reducible exact NS.getObj _
    | with_reducible exact NS.newRow _ _
    | with_reducible exact NS.newVar _ _
    | with_reducible exact NS.newObj _
    | with_reducible exact NS.freeze _ _
    | with_reducible exact NS.mark _
    | with_reducible exact NS.load _ _
    | with_reducible exact NS.loadCells _ _
    | with_reducible exact NS.loadVar _ _
    | with_reducible exact NS.sliceBounds _ _ _ _ _ _
    | with_reducible exact NS.slice _ _ _ _ _
    | (with_reducible refine NS.bind ?_ fun _ => ?_)
    | (with_reducible refine NS.map ?_)
    | (with_reducible refine NS.forIn_array _ (fun _ _ => ?_) _ _)
    | (with_reducible refine NS.forIn_range _ (fun _ _ => ?_) _ _)
    | (with_reducible refine NS.forIn_list _ (fun _ _ => ?_) _ _)
    | split
    | dsimp only

theorem NS.build (t : TypeId) (ps : Array (Nat × Value)) : NS (Instr.build t ps) := by
  unfold Instr.build
  repeat' first
    | with_reducible exact NS.pure _
    | with_reducible exact NS.stuck _
    | with_reducible exact NS.unsupported _
    | with_reducible exact NS.boundsPanic _ _ _ _
    | with_reducible exact NS.runtimePanic _
    | with_reducible exact NS.goPanic _
    | with_reducible exact NS.sizeOf _
    | with_reducible exact NS.typeInfo _
    | with_reducible exact NS.underlying _
    | with_reducible exact NS.zeroValue _
    | with_reducible exact NS.isAgg _
    | with_reducible exact NS.sureAddr _
    | with_reducible exact NS.asIntOf _
    | with_reducible exact NS.asInt _
    | with_reducible exact NS.asBool _
    | with_reducible exact NS.asAgg _
    | with_reducible exact NS.asAddr _
    | with_reducible exact NS.part _ _ _
    | with_reducible exact NS.program
    | with_reducible exact NS.choose _
    | with_reducible exact NS.shape _
    | with_reducible exact NS.frozen _
    | with_reducible exact NS.getObj _
    | with_reducible exact NS.newRow _ _
    | with_reducible exact NS.newVar _ _
    | with_reducible exact NS.newObj _
    | with_reducible exact NS.freeze _ _
    | with_reducible exact NS.mark _
    | with_reducible exact NS.load _ _
    | with_reducible exact NS.loadCells _ _
    | with_reducible exact NS.loadVar _ _
    | with_reducible exact NS.mapM_array _ (fun _ => NS.bind (NS.sizeOf _) fun _ => NS.pure _) _
    | (with_reducible refine NS.bind ?_ fun _ => ?_)
    | (with_reducible refine NS.map ?_)
    | (with_reducible refine NS.forIn_array _ (fun _ _ => ?_) _ _)
    | (with_reducible refine NS.forIn_range _ (fun _ _ => ?_) _ _)
    | (with_reducible refine NS.forIn_list _ (fun _ _ => ?_) _ _)
    | split
    | dsimp only

theorem NS.buildSlice (t : TypeId) (n : Nat) (ps : Array (Nat × Value)) : NS (Instr.buildSlice t n ps) := by
  unfold Instr.buildSlice
  repeat' first
    | with_reducible exact NS.pure _
    | with_reducible exact NS.stuck _
    | with_reducible exact NS.unsupported _
    | with_reducible exact NS.boundsPanic _ _ _ _
    | with_reducible exact NS.runtimePanic _
    | with_reducible exact NS.goPanic _
    | with_reducible exact NS.sizeOf _
    | with_reducible exact NS.typeInfo _
    | with_reducible exact NS.underlying _
    | with_reducible exact NS.zeroValue _
    | with_reducible exact NS.isAgg _
    | with_reducible exact NS.sureAddr _
    | with_reducible exact NS.asIntOf _
    | with_reducible exact NS.asInt _
    | with_reducible exact NS.asBool _
    | with_reducible exact NS.asAgg _
    | with_reducible exact NS.asAddr _
    | with_reducible exact NS.part _ _ _
    | with_reducible exact NS.program
    | with_reducible exact NS.choose _
    | with_reducible exact NS.shape _
    | with_reducible exact NS.frozen _
    | with_reducible exact NS.getObj _
    | with_reducible exact NS.newRow _ _
    | with_reducible exact NS.newVar _ _
    | with_reducible exact NS.newObj _
    | with_reducible exact NS.freeze _ _
    | with_reducible exact NS.mark _
    | with_reducible exact NS.load _ _
    | with_reducible exact NS.loadCells _ _
    | with_reducible exact NS.loadVar _ _
    | (with_reducible refine NS.bind ?_ fun _ => ?_)
    | (with_reducible refine NS.map ?_)
    | (with_reducible refine NS.forIn_array _ (fun _ _ => ?_) _ _)
    | (with_reducible refine NS.forIn_range _ (fun _ _ => ?_) _ _)
    | (with_reducible refine NS.forIn_list _ (fun _ _ => ?_) _ _)
    | split
    | dsimp only

theorem NS.box (t : TypeId) (v : Value) : NS (Instr.box t v) := by
  unfold Instr.box
  repeat' first
    | with_reducible exact NS.pure _
    | with_reducible exact NS.stuck _
    | with_reducible exact NS.unsupported _
    | with_reducible exact NS.boundsPanic _ _ _ _
    | with_reducible exact NS.runtimePanic _
    | with_reducible exact NS.goPanic _
    | with_reducible exact NS.sizeOf _
    | with_reducible exact NS.typeInfo _
    | with_reducible exact NS.underlying _
    | with_reducible exact NS.zeroValue _
    | with_reducible exact NS.isAgg _
    | with_reducible exact NS.sureAddr _
    | with_reducible exact NS.asIntOf _
    | with_reducible exact NS.asInt _
    | with_reducible exact NS.asBool _
    | with_reducible exact NS.asAgg _
    | with_reducible exact NS.asAddr _
    | with_reducible exact NS.part _ _ _
    | with_reducible exact NS.program
    | with_reducible exact NS.choose _
    | with_reducible exact NS.shape _
    | with_reducible exact NS.frozen _
    | with_reducible exact NS.getObj _
    | with_reducible exact NS.newRow _ _
    | with_reducible exact NS.newVar _ _
    | with_reducible exact NS.newObj _
    | with_reducible exact NS.freeze _ _
    | with_reducible exact NS.mark _
    | with_reducible exact NS.load _ _
    | with_reducible exact NS.loadCells _ _
    | with_reducible exact NS.loadVar _ _
    | (with_reducible refine NS.bind ?_ fun _ => ?_)
    | (with_reducible refine NS.map ?_)
    | (with_reducible refine NS.forIn_array _ (fun _ _ => ?_) _ _)
    | (with_reducible refine NS.forIn_range _ (fun _ _ => ?_) _ _)
    | (with_reducible refine NS.forIn_list _ (fun _ _ => ?_) _ _)
    | split
    | dsimp only

theorem NS.alloc (t : TypeId) : NS (Instr.alloc t true (.tuple #[])) := by
  unfold Instr.alloc
  repeat' first
    | with_reducible exact NS.pure _
    | with_reducible exact NS.stuck _
    | with_reducible exact NS.unsupported _
    | with_reducible exact NS.boundsPanic _ _ _ _
    | with_reducible exact NS.runtimePanic _
    | with_reducible exact NS.goPanic _
    | with_reducible exact NS.sizeOf _
    | with_reducible exact NS.typeInfo _
    | with_reducible exact NS.underlying _
    | with_reducible exact NS.zeroValue _
    | with_reducible exact NS.isAgg _
    | with_reducible exact NS.sureAddr _
    | with_reducible exact NS.asIntOf _
    | with_reducible exact NS.asInt _
    | with_reducible exact NS.asBool _
    | with_reducible exact NS.asAgg _
    | with_reducible exact NS.asAddr _
    | with_reducible exact NS.part _ _ _
    | with_reducible exact NS.program
    | with_reducible exact NS.choose _
    | with_reducible exact NS.shape _
    | with_reducible exact NS.frozen _
    | with_reducible exact NS.getObj _
    | with_reducible exact NS.newRow _ _
    | with_reducible exact NS.newVar _ _
    | with_reducible exact NS.newObj _
    | with_reducible exact NS.freeze _ _
    | with_reducible exact NS.mark _
    | with_reducible exact NS.load _ _
    | with_reducible exact NS.loadCells _ _
    | with_reducible exact NS.loadVar _ _
    | (with_reducible refine NS.bind ?_ fun _ => ?_)
    | (with_reducible refine NS.map ?_)
    | (with_reducible refine NS.forIn_array _ (fun _ _ => ?_) _ _)
    | (with_reducible refine NS.forIn_range _ (fun _ _ => ?_) _ _)
    | (with_reducible refine NS.forIn_list _ (fun _ _ => ?_) _ _)
    | split
    | dsimp only

theorem NS.makeSlice (t : TypeId) (l c : Value) : NS (Instr.makeSlice t l c) := by
  unfold Instr.makeSlice
  repeat' first
    | with_reducible exact NS.pure _
    | with_reducible exact NS.stuck _
    | with_reducible exact NS.unsupported _
    | with_reducible exact NS.boundsPanic _ _ _ _
    | with_reducible exact NS.runtimePanic _
    | with_reducible exact NS.goPanic _
    | with_reducible exact NS.sizeOf _
    | with_reducible exact NS.typeInfo _
    | with_reducible exact NS.underlying _
    | with_reducible exact NS.zeroValue _
    | with_reducible exact NS.isAgg _
    | with_reducible exact NS.sureAddr _
    | with_reducible exact NS.asIntOf _
    | with_reducible exact NS.asInt _
    | with_reducible exact NS.asBool _
    | with_reducible exact NS.asAgg _
    | with_reducible exact NS.asAddr _
    | with_reducible exact NS.part _ _ _
    | with_reducible exact NS.program
    | with_reducible exact NS.choose _
    | with_reducible exact NS.shape _
    | with_reducible exact NS.frozen _
    | with_reducible exact NS.getObj _
    | with_reducible exact NS.newRow _ _
    | with_reducible exact NS.newVar _ _
    | with_reducible exact NS.newObj _
    | with_reducible exact NS.freeze _ _
    | with_reducible exact NS.mark _
    | with_reducible exact NS.load _ _
    | with_reducible exact NS.loadCells _ _
    | with_reducible exact NS.loadVar _ _
    | with_reducible exact NS.askRoom _
    | (with_reducible refine NS.bind ?_ fun _ => ?_)
    | (with_reducible refine NS.map ?_)
    | (with_reducible refine NS.forIn_array _ (fun _ _ => ?_) _ _)
    | (with_reducible refine NS.forIn_range _ (fun _ _ => ?_) _ _)
    | (with_reducible refine NS.forIn_list _ (fun _ _ => ?_) _ _)
    | split
    | dsimp only

theorem NS.len (ts : Array TypeId) (t : TypeId) (xs : Array Value) : NS (Builtin.len_ ts t xs) := by
  unfold Builtin.len_
  repeat' first
    | with_reducible exact NS.pure _
    | with_reducible exact NS.stuck _
    | with_reducible exact NS.unsupported _
    | with_reducible exact NS.boundsPanic _ _ _ _
    | with_reducible exact NS.runtimePanic _
    | with_reducible exact NS.goPanic _
    | with_reducible exact NS.sizeOf _
    | with_reducible exact NS.typeInfo _
    | with_reducible exact NS.underlying _
    | with_reducible exact NS.zeroValue _
    | with_reducible exact NS.isAgg _
    | with_reducible exact NS.sureAddr _
    | with_reducible exact NS.asIntOf _
    | with_reducible exact NS.asInt _
    | with_reducible exact NS.asBool _
    | with_reducible exact NS.asAgg _
    | with_reducible exact NS.asAddr _
    | with_reducible exact NS.part _ _ _
    | with_reducible exact NS.program
    | with_reducible exact NS.choose _
    | with_reducible exact NS.shape _
    | with_reducible exact NS.frozen _
    | with_reducible exact NS.getObj _
    | with_reducible exact NS.newRow _ _
    | with_reducible exact NS.newVar _ _
    | with_reducible exact NS.newObj _
    | with_reducible exact NS.freeze _ _
    | with_reducible exact NS.mark _
    | with_reducible exact NS.load _ _
    | with_reducible exact NS.loadCells _ _
    | with_reducible exact NS.loadVar _ _
    | (with_reducible refine NS.bind ?_ fun _ => ?_)
    | (with_reducible refine NS.map ?_)
    | (with_reducible refine NS.forIn_array _ (fun _ _ => ?_) _ _)
    | (with_reducible refine NS.forIn_range _ (fun _ _ => ?_) _ _)
    | (with_reducible refine NS.forIn_list _ (fun _ _ => ?_) _ _)
    | split
    | dsimp only

theorem NS.cap (ts : Array TypeId) (t : TypeId) (xs : Array Value) : NS (Builtin.cap_ ts t xs) := by
  unfold Builtin.cap_
  repeat' first
    | with_reducible exact NS.pure _
    | with_reducible exact NS.stuck _
    | with_reducible exact NS.unsupported _
    | with_reducible exact NS.boundsPanic _ _ _ _
    | with_reducible exact NS.runtimePanic _
    | with_reducible exact NS.goPanic _
    | with_reducible exact NS.sizeOf _
    | with_reducible exact NS.typeInfo _
    | with_reducible exact NS.underlying _
    | with_reducible exact NS.zeroValue _
    | with_reducible exact NS.isAgg _
    | with_reducible exact NS.sureAddr _
    | with_reducible exact NS.asIntOf _
    | with_reducible exact NS.asInt _
    | with_reducible exact NS.asBool _
    | with_reducible exact NS.asAgg _
    | with_reducible exact NS.asAddr _
    | with_reducible exact NS.part _ _ _
    | with_reducible exact NS.program
    | with_reducible exact NS.choose _
    | with_reducible exact NS.shape _
    | with_reducible exact NS.frozen _
    | with_reducible exact NS.getObj _
    | with_reducible exact NS.newRow _ _
    | with_reducible exact NS.newVar _ _
    | with_reducible exact NS.newObj _
    | with_reducible exact NS.freeze _ _
    | with_reducible exact NS.mark _
    | with_reducible exact NS.load _ _
    | with_reducible exact NS.loadCells _ _
    | with_reducible exact NS.loadVar _ _
    | (with_reducible refine NS.bind ?_ fun _ => ?_)
    | (with_reducible refine NS.map ?_)
    | (with_reducible refine NS.forIn_array _ (fun _ _ => ?_) _ _)
    | (with_reducible refine NS.forIn_range _ (fun _ _ => ?_) _ _)
    | (with_reducible refine NS.forIn_list _ (fun _ _ => ?_) _ _)
    | split
    | dsimp only

theorem NS.extract (v : Value) (i : Nat) : NS (Instr.extract v i) := by
  unfold Instr.extract
  repeat' first
    | with_reducible exact NS.pure _
    | with_reducible exact NS.stuck _
    | with_reducible exact NS.unsupported _
    | with_reducible exact NS.boundsPanic _ _ _ _
    | with_reducible exact NS.runtimePanic _
    | with_reducible exact NS.goPanic _
    | with_reducible exact NS.sizeOf _
    | with_reducible exact NS.typeInfo _
    | with_reducible exact NS.underlying _
    | with_reducible exact NS.zeroValue _
    | with_reducible exact NS.isAgg _
    | with_reducible exact NS.sureAddr _
    | with_reducible exact NS.asIntOf _
    | with_reducible exact NS.asInt _
    | with_reducible exact NS.asBool _
    | with_reducible exact NS.asAgg _
    | with_reducible exact NS.asAddr _
    | with_reducible exact NS.part _ _ _
    | with_reducible exact NS.program
    | with_reducible exact NS.choose _
    | with_reducible exact NS.shape _
    | with_reducible exact NS.frozen _
    | with_reducible exact NS.getObj _
    | with_reducible exact NS.newRow _ _
    | with_reducible exact NS.newVar _ _
    | with_reducible exact NS.newObj _
    | with_reducible exact NS.freeze _ _
    | with_reducible exact NS.mark _
    | with_reducible exact NS.load _ _
    | with_reducible exact NS.loadCells _ _
    | with_reducible exact NS.loadVar _ _
    | (with_reducible refine NS.bind ?_ fun _ => ?_)
    | (with_reducible refine NS.map ?_)
    | (with_reducible refine NS.forIn_array _ (fun _ _ => ?_) _ _)
    | (with_reducible refine NS.forIn_range _ (fun _ _ => ?_) _ _)
    | (with_reducible refine NS.forIn_list _ (fun _ _ => ?_) _ _)
    | split
    | dsimp only

theorem NS.intArith (op : BinOp) (k : IntKind) (x y : Int) : NS (Op.intArith op k x y) := by
  unfold Op.intArith
  repeat' first
    | with_reducible exact NS.pure _
    | with_reducible exact NS.stuck _
    | with_reducible exact NS.unsupported _
    | with_reducible exact NS.boundsPanic _ _ _ _
    | with_reducible exact NS.runtimePanic _
    | with_reducible exact NS.goPanic _
    | with_reducible exact NS.sizeOf _
    | with_reducible exact NS.typeInfo _
    | with_reducible exact NS.underlying _
    | with_reducible exact NS.zeroValue _
    | with_reducible exact NS.isAgg _
    | with_reducible exact NS.sureAddr _
    | with_reducible exact NS.asIntOf _
    | with_reducible exact NS.asInt _
    | with_reducible exact NS.asBool _
    | with_reducible exact NS.asAgg _
    | with_reducible exact NS.asAddr _
    | with_reducible exact NS.part _ _ _
    | with_reducible exact NS.program
    | with_reducible exact NS.choose _
    | with_reducible exact NS.shape _
    | with_reducible exact NS.frozen _
    | with_reducible exact NS.getObj _
    | with_reducible exact NS.newRow _ _
    | with_reducible exact NS.newVar _ _
    | with_reducible exact NS.newObj _
    | with_reducible exact NS.freeze _ _
    | with_reducible exact NS.mark _
    | with_reducible exact NS.load _ _
    | with_reducible exact NS.loadCells _ _
    | with_reducible exact NS.loadVar _ _
    | (with_reducible refine NS.bind ?_ fun _ => ?_)
    | (with_reducible refine NS.map ?_)
    | (with_reducible refine NS.forIn_array _ (fun _ _ => ?_) _ _)
    | (with_reducible refine NS.forIn_range _ (fun _ _ => ?_) _ _)
    | (with_reducible refine NS.forIn_list _ (fun _ _ => ?_) _ _)
    | split
    | dsimp only

theorem NS.intBits (op : BinOp) (k : IntKind) (x y : Int) : NS (Op.intBits op k x y) := by
  unfold Op.intBits
  repeat' first
    | with_reducible exact NS.pure _
    | with_reducible exact NS.stuck _
    | with_reducible exact NS.unsupported _
    | with_reducible exact NS.boundsPanic _ _ _ _
    | with_reducible exact NS.runtimePanic _
    | with_reducible exact NS.goPanic _
    | with_reducible exact NS.sizeOf _
    | with_reducible exact NS.typeInfo _
    | with_reducible exact NS.underlying _
    | with_reducible exact NS.zeroValue _
    | with_reducible exact NS.isAgg _
    | with_reducible exact NS.sureAddr _
    | with_reducible exact NS.asIntOf _
    | with_reducible exact NS.asInt _
    | with_reducible exact NS.asBool _
    | with_reducible exact NS.asAgg _
    | with_reducible exact NS.asAddr _
    | with_reducible exact NS.part _ _ _
    | with_reducible exact NS.program
    | with_reducible exact NS.choose _
    | with_reducible exact NS.shape _
    | with_reducible exact NS.frozen _
    | with_reducible exact NS.getObj _
    | with_reducible exact NS.newRow _ _
    | with_reducible exact NS.newVar _ _
    | with_reducible exact NS.newObj _
    | with_reducible exact NS.freeze _ _
    | with_reducible exact NS.mark _
    | with_reducible exact NS.load _ _
    | with_reducible exact NS.loadCells _ _
    | with_reducible exact NS.loadVar _ _
    | (with_reducible refine NS.bind ?_ fun _ => ?_)
    | (with_reducible refine NS.map ?_)
    | (with_reducible refine NS.forIn_array _ (fun _ _ => ?_) _ _)
    | (with_reducible refine NS.forIn_range _ (fun _ _ => ?_) _ _)
    | (with_reducible refine NS.forIn_list _ (fun _ _ => ?_) _ _)
    | split
    | dsimp only

theorem NS.intDiv (op : BinOp) (k : IntKind) (x y : Int) : NS (Op.intDiv op k x y) := by
  unfold Op.intDiv
  repeat' first
    | with_reducible exact NS.pure _
    | with_reducible exact NS.stuck _
    | with_reducible exact NS.unsupported _
    | with_reducible exact NS.boundsPanic _ _ _ _
    | with_reducible exact NS.runtimePanic _
    | with_reducible exact NS.goPanic _
    | with_reducible exact NS.sizeOf _
    | with_reducible exact NS.typeInfo _
    | with_reducible exact NS.underlying _
    | with_reducible exact NS.zeroValue _
    | with_reducible exact NS.isAgg _
    | with_reducible exact NS.sureAddr _
    | with_reducible exact NS.asIntOf _
    | with_reducible exact NS.asInt _
    | with_reducible exact NS.asBool _
    | with_reducible exact NS.asAgg _
    | with_reducible exact NS.asAddr _
    | with_reducible exact NS.part _ _ _
    | with_reducible exact NS.program
    | with_reducible exact NS.choose _
    | with_reducible exact NS.shape _
    | with_reducible exact NS.frozen _
    | with_reducible exact NS.getObj _
    | with_reducible exact NS.newRow _ _
    | with_reducible exact NS.newVar _ _
    | with_reducible exact NS.newObj _
    | with_reducible exact NS.freeze _ _
    | with_reducible exact NS.mark _
    | with_reducible exact NS.load _ _
    | with_reducible exact NS.loadCells _ _
    | with_reducible exact NS.loadVar _ _
    | (with_reducible refine NS.bind ?_ fun _ => ?_)
    | (with_reducible refine NS.map ?_)
    | (with_reducible refine NS.forIn_array _ (fun _ _ => ?_) _ _)
    | (with_reducible refine NS.forIn_range _ (fun _ _ => ?_) _ _)
    | (with_reducible refine NS.forIn_list _ (fun _ _ => ?_) _ _)
    | split
    | dsimp only

theorem NS.intCmp (op : BinOp) (x y : Int) : NS (Op.intCmp op x y) := by
  unfold Op.intCmp
  repeat' first
    | with_reducible exact NS.pure _
    | with_reducible exact NS.stuck _
    | with_reducible exact NS.unsupported _
    | with_reducible exact NS.boundsPanic _ _ _ _
    | with_reducible exact NS.runtimePanic _
    | with_reducible exact NS.goPanic _
    | with_reducible exact NS.sizeOf _
    | with_reducible exact NS.typeInfo _
    | with_reducible exact NS.underlying _
    | with_reducible exact NS.zeroValue _
    | with_reducible exact NS.isAgg _
    | with_reducible exact NS.sureAddr _
    | with_reducible exact NS.asIntOf _
    | with_reducible exact NS.asInt _
    | with_reducible exact NS.asBool _
    | with_reducible exact NS.asAgg _
    | with_reducible exact NS.asAddr _
    | with_reducible exact NS.part _ _ _
    | with_reducible exact NS.program
    | with_reducible exact NS.choose _
    | with_reducible exact NS.shape _
    | with_reducible exact NS.frozen _
    | with_reducible exact NS.getObj _
    | with_reducible exact NS.newRow _ _
    | with_reducible exact NS.newVar _ _
    | with_reducible exact NS.newObj _
    | with_reducible exact NS.freeze _ _
    | with_reducible exact NS.mark _
    | with_reducible exact NS.load _ _
    | with_reducible exact NS.loadCells _ _
    | with_reducible exact NS.loadVar _ _
    | (with_reducible refine NS.bind ?_ fun _ => ?_)
    | (with_reducible refine NS.map ?_)
    | (with_reducible refine NS.forIn_array _ (fun _ _ => ?_) _ _)
    | (with_reducible refine NS.forIn_range _ (fun _ _ => ?_) _ _)
    | (with_reducible refine NS.forIn_list _ (fun _ _ => ?_) _ _)
    | split
    | dsimp only

theorem NS.shift (op : BinOp) (k : IntKind) (x : Int) (yk : IntKind) (y : Int) : NS (Op.shift op k x yk y) := by
  unfold Op.shift
  repeat' first
    | with_reducible exact NS.pure _
    | with_reducible exact NS.stuck _
    | with_reducible exact NS.unsupported _
    | with_reducible exact NS.boundsPanic _ _ _ _
    | with_reducible exact NS.runtimePanic _
    | with_reducible exact NS.goPanic _
    | with_reducible exact NS.sizeOf _
    | with_reducible exact NS.typeInfo _
    | with_reducible exact NS.underlying _
    | with_reducible exact NS.zeroValue _
    | with_reducible exact NS.isAgg _
    | with_reducible exact NS.sureAddr _
    | with_reducible exact NS.asIntOf _
    | with_reducible exact NS.asInt _
    | with_reducible exact NS.asBool _
    | with_reducible exact NS.asAgg _
    | with_reducible exact NS.asAddr _
    | with_reducible exact NS.part _ _ _
    | with_reducible exact NS.program
    | with_reducible exact NS.choose _
    | with_reducible exact NS.shape _
    | with_reducible exact NS.frozen _
    | with_reducible exact NS.getObj _
    | with_reducible exact NS.newRow _ _
    | with_reducible exact NS.newVar _ _
    | with_reducible exact NS.newObj _
    | with_reducible exact NS.freeze _ _
    | with_reducible exact NS.mark _
    | with_reducible exact NS.load _ _
    | with_reducible exact NS.loadCells _ _
    | with_reducible exact NS.loadVar _ _
    | (with_reducible refine NS.bind ?_ fun _ => ?_)
    | (with_reducible refine NS.map ?_)
    | (with_reducible refine NS.forIn_array _ (fun _ _ => ?_) _ _)
    | (with_reducible refine NS.forIn_range _ (fun _ _ => ?_) _ _)
    | (with_reducible refine NS.forIn_list _ (fun _ _ => ?_) _ _)
    | split
    | dsimp only

theorem NS.stringOp (op : BinOp) (x y : ByteArray) : NS (Op.stringOp op x y) := by
  unfold Op.stringOp
  repeat' first
    | with_reducible exact NS.pure _
    | with_reducible exact NS.stuck _
    | with_reducible exact NS.unsupported _
    | with_reducible exact NS.boundsPanic _ _ _ _
    | with_reducible exact NS.runtimePanic _
    | with_reducible exact NS.goPanic _
    | with_reducible exact NS.sizeOf _
    | with_reducible exact NS.typeInfo _
    | with_reducible exact NS.underlying _
    | with_reducible exact NS.zeroValue _
    | with_reducible exact NS.isAgg _
    | with_reducible exact NS.sureAddr _
    | with_reducible exact NS.asIntOf _
    | with_reducible exact NS.asInt _
    | with_reducible exact NS.asBool _
    | with_reducible exact NS.asAgg _
    | with_reducible exact NS.asAddr _
    | with_reducible exact NS.part _ _ _
    | with_reducible exact NS.program
    | with_reducible exact NS.choose _
    | with_reducible exact NS.shape _
    | with_reducible exact NS.frozen _
    | with_reducible exact NS.getObj _
    | with_reducible exact NS.newRow _ _
    | with_reducible exact NS.newVar _ _
    | with_reducible exact NS.newObj _
    | with_reducible exact NS.freeze _ _
    | with_reducible exact NS.mark _
    | with_reducible exact NS.load _ _
    | with_reducible exact NS.loadCells _ _
    | with_reducible exact NS.loadVar _ _
    | (with_reducible refine NS.bind ?_ fun _ => ?_)
    | (with_reducible refine NS.map ?_)
    | (with_reducible refine NS.forIn_array _ (fun _ _ => ?_) _ _)
    | (with_reducible refine NS.forIn_range _ (fun _ _ => ?_) _ _)
    | (with_reducible refine NS.forIn_list _ (fun _ _ => ?_) _ _)
    | split
    | dsimp only

theorem NS.unary (op : UnOp) (x : Value) : NS (Op.unary op x) := by
  unfold Op.unary
  repeat' first
    | with_reducible exact NS.pure _
    | with_reducible exact NS.stuck _
    | with_reducible exact NS.unsupported _
    | with_reducible exact NS.boundsPanic _ _ _ _
    | with_reducible exact NS.runtimePanic _
    | with_reducible exact NS.goPanic _
    | with_reducible exact NS.sizeOf _
    | with_reducible exact NS.typeInfo _
    | with_reducible exact NS.underlying _
    | with_reducible exact NS.zeroValue _
    | with_reducible exact NS.isAgg _
    | with_reducible exact NS.sureAddr _
    | with_reducible exact NS.asIntOf _
    | with_reducible exact NS.asInt _
    | with_reducible exact NS.asBool _
    | with_reducible exact NS.asAgg _
    | with_reducible exact NS.asAddr _
    | with_reducible exact NS.part _ _ _
    | with_reducible exact NS.program
    | with_reducible exact NS.choose _
    | with_reducible exact NS.shape _
    | with_reducible exact NS.frozen _
    | with_reducible exact NS.getObj _
    | with_reducible exact NS.newRow _ _
    | with_reducible exact NS.newVar _ _
    | with_reducible exact NS.newObj _
    | with_reducible exact NS.freeze _ _
    | with_reducible exact NS.mark _
    | with_reducible exact NS.load _ _
    | with_reducible exact NS.loadCells _ _
    | with_reducible exact NS.loadVar _ _
    | with_reducible exact NS.intArith _ _ _ _
    | with_reducible exact NS.intBits _ _ _ _
    | (with_reducible refine NS.bind ?_ fun _ => ?_)
    | (with_reducible refine NS.map ?_)
    | (with_reducible refine NS.forIn_array _ (fun _ _ => ?_) _ _)
    | (with_reducible refine NS.forIn_range _ (fun _ _ => ?_) _ _)
    | (with_reducible refine NS.forIn_list _ (fun _ _ => ?_) _ _)
    | split
    | dsimp only

theorem NS.typeStr (t : TypeId) : NS (typeStr t) := by
  unfold Go.typeStr
  repeat' first
    | with_reducible exact NS.pure _
    | with_reducible exact NS.stuck _
    | with_reducible exact NS.unsupported _
    | with_reducible exact NS.boundsPanic _ _ _ _
    | with_reducible exact NS.runtimePanic _
    | with_reducible exact NS.goPanic _
    | with_reducible exact NS.sizeOf _
    | with_reducible exact NS.typeInfo _
    | with_reducible exact NS.underlying _
    | with_reducible exact NS.zeroValue _
    | with_reducible exact NS.isAgg _
    | with_reducible exact NS.sureAddr _
    | with_reducible exact NS.asIntOf _
    | with_reducible exact NS.asInt _
    | with_reducible exact NS.asBool _
    | with_reducible exact NS.asAgg _
    | with_reducible exact NS.asAddr _
    | with_reducible exact NS.part _ _ _
    | with_reducible exact NS.program
    | with_reducible exact NS.choose _
    | with_reducible exact NS.shape _
    | with_reducible exact NS.frozen _
    | with_reducible exact NS.getObj _
    | with_reducible exact NS.newRow _ _
    | with_reducible exact NS.newVar _ _
    | with_reducible exact NS.newObj _
    | with_reducible exact NS.freeze _ _
    | with_reducible exact NS.mark _
    | with_reducible exact NS.load _ _
    | with_reducible exact NS.loadCells _ _
    | with_reducible exact NS.loadVar _ _
    | (with_reducible refine NS.bind ?_ fun _ => ?_)
    | (with_reducible refine NS.map ?_)
    | (with_reducible refine NS.forIn_array _ (fun _ _ => ?_) _ _)
    | (with_reducible refine NS.forIn_range _ (fun _ _ => ?_) _ _)
    | (with_reducible refine NS.forIn_list _ (fun _ _ => ?_) _ _)
    | split
    | dsimp only

theorem NS.numberAt (r : Nat) : NS (numberAt r) := by
  unfold Go.numberAt
  repeat' first
    | with_reducible exact NS.pure _
    | with_reducible exact NS.stuck _
    | with_reducible exact NS.unsupported _
    | with_reducible exact NS.boundsPanic _ _ _ _
    | with_reducible exact NS.runtimePanic _
    | with_reducible exact NS.goPanic _
    | with_reducible exact NS.sizeOf _
    | with_reducible exact NS.typeInfo _
    | with_reducible exact NS.underlying _
    | with_reducible exact NS.zeroValue _
    | with_reducible exact NS.isAgg _
    | with_reducible exact NS.sureAddr _
    | with_reducible exact NS.asIntOf _
    | with_reducible exact NS.asInt _
    | with_reducible exact NS.asBool _
    | with_reducible exact NS.asAgg _
    | with_reducible exact NS.asAddr _
    | with_reducible exact NS.part _ _ _
    | with_reducible exact NS.program
    | with_reducible exact NS.choose _
    | with_reducible exact NS.shape _
    | with_reducible exact NS.frozen _
    | with_reducible exact NS.getObj _
    | with_reducible exact NS.newRow _ _
    | with_reducible exact NS.newVar _ _
    | with_reducible exact NS.newObj _
    | with_reducible exact NS.freeze _ _
    | with_reducible exact NS.mark _
    | with_reducible exact NS.load _ _
    | with_reducible exact NS.loadCells _ _
    | with_reducible exact NS.loadVar _ _
    | (with_reducible refine NS.bind ?_ fun _ => ?_)
    | (with_reducible refine NS.map ?_)
    | (with_reducible refine NS.forIn_array _ (fun _ _ => ?_) _ _)
    | (with_reducible refine NS.forIn_range _ (fun _ _ => ?_) _ _)
    | (with_reducible refine NS.forIn_list _ (fun _ _ => ?_) _ _)
    | split
    | dsimp only

theorem NS.behindNumber (a : Addr) : NS (behindNumber a) := by
  unfold Go.behindNumber
  repeat' first
    | with_reducible exact NS.pure _
    | with_reducible exact NS.stuck _
    | with_reducible exact NS.unsupported _
    | with_reducible exact NS.boundsPanic _ _ _ _
    | with_reducible exact NS.runtimePanic _
    | with_reducible exact NS.goPanic _
    | with_reducible exact NS.sizeOf _
    | with_reducible exact NS.typeInfo _
    | with_reducible exact NS.underlying _
    | with_reducible exact NS.zeroValue _
    | with_reducible exact NS.isAgg _
    | with_reducible exact NS.sureAddr _
    | with_reducible exact NS.asIntOf _
    | with_reducible exact NS.asInt _
    | with_reducible exact NS.asBool _
    | with_reducible exact NS.asAgg _
    | with_reducible exact NS.asAddr _
    | with_reducible exact NS.part _ _ _
    | with_reducible exact NS.program
    | with_reducible exact NS.choose _
    | with_reducible exact NS.shape _
    | with_reducible exact NS.frozen _
    | with_reducible exact NS.getObj _
    | with_reducible exact NS.newRow _ _
    | with_reducible exact NS.newVar _ _
    | with_reducible exact NS.newObj _
    | with_reducible exact NS.freeze _ _
    | with_reducible exact NS.mark _
    | with_reducible exact NS.load _ _
    | with_reducible exact NS.loadCells _ _
    | with_reducible exact NS.loadVar _ _
    | with_reducible exact NS.numberAt _
    | (with_reducible refine NS.bind ?_ fun _ => ?_)
    | (with_reducible refine NS.map ?_)
    | (with_reducible refine NS.forIn_array _ (fun _ _ => ?_) _ _)
    | (with_reducible refine NS.forIn_range _ (fun _ _ => ?_) _ _)
    | (with_reducible refine NS.forIn_list _ (fun _ _ => ?_) _ _)
    | split
    | dsimp only

theorem NS.asNumber (a : Addr) (b : Bool) : NS (asNumber a b) := by
  unfold Go.asNumber
  repeat' first
    | with_reducible exact NS.pure _
    | with_reducible exact NS.stuck _
    | with_reducible exact NS.unsupported _
    | with_reducible exact NS.boundsPanic _ _ _ _
    | with_reducible exact NS.runtimePanic _
    | with_reducible exact NS.goPanic _
    | with_reducible exact NS.sizeOf _
    | with_reducible exact NS.typeInfo _
    | with_reducible exact NS.underlying _
    | with_reducible exact NS.zeroValue _
    | with_reducible exact NS.isAgg _
    | with_reducible exact NS.sureAddr _
    | with_reducible exact NS.asIntOf _
    | with_reducible exact NS.asInt _
    | with_reducible exact NS.asBool _
    | with_reducible exact NS.asAgg _
    | with_reducible exact NS.asAddr _
    | with_reducible exact NS.part _ _ _
    | with_reducible exact NS.program
    | with_reducible exact NS.choose _
    | with_reducible exact NS.shape _
    | with_reducible exact NS.frozen _
    | with_reducible exact NS.getObj _
    | with_reducible exact NS.newRow _ _
    | with_reducible exact NS.newVar _ _
    | with_reducible exact NS.newObj _
    | with_reducible exact NS.freeze _ _
    | with_reducible exact NS.mark _
    | with_reducible exact NS.load _ _
    | with_reducible exact NS.loadCells _ _
    | with_reducible exact NS.loadVar _ _
    | (with_reducible refine NS.bind ?_ fun _ => ?_)
    | (with_reducible refine NS.map ?_)
    | (with_reducible refine NS.forIn_array _ (fun _ _ => ?_) _ _)
    | (with_reducible refine NS.forIn_range _ (fun _ _ => ?_) _ _)
    | (with_reducible refine NS.forIn_list _ (fun _ _ => ?_) _ _)
    | split
    | dsimp only

theorem NS.stringish (a : Addr) : NS (stringish a) := by
  unfold Go.stringish
  repeat' first
    | with_reducible exact NS.pure _
    | with_reducible exact NS.stuck _
    | with_reducible exact NS.unsupported _
    | with_reducible exact NS.boundsPanic _ _ _ _
    | with_reducible exact NS.runtimePanic _
    | with_reducible exact NS.goPanic _
    | with_reducible exact NS.sizeOf _
    | with_reducible exact NS.typeInfo _
    | with_reducible exact NS.underlying _
    | with_reducible exact NS.zeroValue _
    | with_reducible exact NS.isAgg _
    | with_reducible exact NS.sureAddr _
    | with_reducible exact NS.asIntOf _
    | with_reducible exact NS.asInt _
    | with_reducible exact NS.asBool _
    | with_reducible exact NS.asAgg _
    | with_reducible exact NS.asAddr _
    | with_reducible exact NS.part _ _ _
    | with_reducible exact NS.program
    | with_reducible exact NS.choose _
    | with_reducible exact NS.shape _
    | with_reducible exact NS.frozen _
    | with_reducible exact NS.getObj _
    | with_reducible exact NS.newRow _ _
    | with_reducible exact NS.newVar _ _
    | with_reducible exact NS.newObj _
    | with_reducible exact NS.freeze _ _
    | with_reducible exact NS.mark _
    | with_reducible exact NS.load _ _
    | with_reducible exact NS.loadCells _ _
    | with_reducible exact NS.loadVar _ _
    | (with_reducible refine NS.bind ?_ fun _ => ?_)
    | (with_reducible refine NS.map ?_)
    | (with_reducible refine NS.forIn_array _ (fun _ _ => ?_) _ _)
    | (with_reducible refine NS.forIn_range _ (fun _ _ => ?_) _ _)
    | (with_reducible refine NS.forIn_list _ (fun _ _ => ?_) _ _)
    | split
    | dsimp only

theorem NS.mayBeOne (a b : Addr) : NS (mayBeOne a b) := by
  unfold Go.mayBeOne
  repeat' first
    | with_reducible exact NS.pure _
    | with_reducible exact NS.stuck _
    | with_reducible exact NS.unsupported _
    | with_reducible exact NS.boundsPanic _ _ _ _
    | with_reducible exact NS.runtimePanic _
    | with_reducible exact NS.goPanic _
    | with_reducible exact NS.sizeOf _
    | with_reducible exact NS.typeInfo _
    | with_reducible exact NS.underlying _
    | with_reducible exact NS.zeroValue _
    | with_reducible exact NS.isAgg _
    | with_reducible exact NS.sureAddr _
    | with_reducible exact NS.asIntOf _
    | with_reducible exact NS.asInt _
    | with_reducible exact NS.asBool _
    | with_reducible exact NS.asAgg _
    | with_reducible exact NS.asAddr _
    | with_reducible exact NS.part _ _ _
    | with_reducible exact NS.program
    | with_reducible exact NS.choose _
    | with_reducible exact NS.shape _
    | with_reducible exact NS.frozen _
    | with_reducible exact NS.getObj _
    | with_reducible exact NS.newRow _ _
    | with_reducible exact NS.newVar _ _
    | with_reducible exact NS.newObj _
    | with_reducible exact NS.freeze _ _
    | with_reducible exact NS.mark _
    | with_reducible exact NS.load _ _
    | with_reducible exact NS.loadCells _ _
    | with_reducible exact NS.loadVar _ _
    | with_reducible exact NS.stringish _
    | (with_reducible refine NS.bind ?_ fun _ => ?_)
    | (with_reducible refine NS.map ?_)
    | (with_reducible refine NS.forIn_array _ (fun _ _ => ?_) _ _)
    | (with_reducible refine NS.forIn_range _ (fun _ _ => ?_) _ _)
    | (with_reducible refine NS.forIn_list _ (fun _ _ => ?_) _ _)
    | split
    | dsimp only

theorem NS.sameAddr (a b : Addr) : NS (sameAddr a b) := by
  unfold Go.sameAddr
  repeat' first
    | with_reducible exact NS.pure _
    | with_reducible exact NS.stuck _
    | with_reducible exact NS.unsupported _
    | with_reducible exact NS.boundsPanic _ _ _ _
    | with_reducible exact NS.runtimePanic _
    | with_reducible exact NS.goPanic _
    | with_reducible exact NS.sizeOf _
    | with_reducible exact NS.typeInfo _
    | with_reducible exact NS.underlying _
    | with_reducible exact NS.zeroValue _
    | with_reducible exact NS.isAgg _
    | with_reducible exact NS.sureAddr _
    | with_reducible exact NS.asIntOf _
    | with_reducible exact NS.asInt _
    | with_reducible exact NS.asBool _
    | with_reducible exact NS.asAgg _
    | with_reducible exact NS.asAddr _
    | with_reducible exact NS.part _ _ _
    | with_reducible exact NS.program
    | with_reducible exact NS.choose _
    | with_reducible exact NS.shape _
    | with_reducible exact NS.frozen _
    | with_reducible exact NS.getObj _
    | with_reducible exact NS.newRow _ _
    | with_reducible exact NS.newVar _ _
    | with_reducible exact NS.newObj _
    | with_reducible exact NS.freeze _ _
    | with_reducible exact NS.mark _
    | with_reducible exact NS.load _ _
    | with_reducible exact NS.loadCells _ _
    | with_reducible exact NS.loadVar _ _
    | with_reducible exact NS.noView _
    | with_reducible exact NS.mayBeOne _ _
    | (with_reducible refine NS.bind ?_ fun _ => ?_)
    | (with_reducible refine NS.map ?_)
    | (with_reducible refine NS.forIn_array _ (fun _ _ => ?_) _ _)
    | (with_reducible refine NS.forIn_range _ (fun _ _ => ?_) _ _)
    | (with_reducible refine NS.forIn_list _ (fun _ _ => ?_) _ _)
    | split
    | dsimp only

theorem NS.samePointer (a b : Option Addr) : NS (samePointer a b) := by
  unfold Go.samePointer
  repeat' first
    | with_reducible exact NS.pure _
    | with_reducible exact NS.stuck _
    | with_reducible exact NS.unsupported _
    | with_reducible exact NS.boundsPanic _ _ _ _
    | with_reducible exact NS.runtimePanic _
    | with_reducible exact NS.goPanic _
    | with_reducible exact NS.sizeOf _
    | with_reducible exact NS.typeInfo _
    | with_reducible exact NS.underlying _
    | with_reducible exact NS.zeroValue _
    | with_reducible exact NS.isAgg _
    | with_reducible exact NS.sureAddr _
    | with_reducible exact NS.asIntOf _
    | with_reducible exact NS.asInt _
    | with_reducible exact NS.asBool _
    | with_reducible exact NS.asAgg _
    | with_reducible exact NS.asAddr _
    | with_reducible exact NS.part _ _ _
    | with_reducible exact NS.program
    | with_reducible exact NS.choose _
    | with_reducible exact NS.shape _
    | with_reducible exact NS.frozen _
    | with_reducible exact NS.getObj _
    | with_reducible exact NS.newRow _ _
    | with_reducible exact NS.newVar _ _
    | with_reducible exact NS.newObj _
    | with_reducible exact NS.freeze _ _
    | with_reducible exact NS.mark _
    | with_reducible exact NS.load _ _
    | with_reducible exact NS.loadCells _ _
    | with_reducible exact NS.loadVar _ _
    | with_reducible exact NS.sameAddr _ _
    | (with_reducible refine NS.bind ?_ fun _ => ?_)
    | (with_reducible refine NS.map ?_)
    | (with_reducible refine NS.forIn_array _ (fun _ _ => ?_) _ _)
    | (with_reducible refine NS.forIn_range _ (fun _ _ => ?_) _ _)
    | (with_reducible refine NS.forIn_list _ (fun _ _ => ?_) _ _)
    | split
    | dsimp only

theorem NS.floatArith (op : BinOp) (k : FloatKind) (x y : Nat) : NS (Op.floatArith op k x y) := by
  unfold Op.floatArith
  repeat' first
    | with_reducible exact NS.pure _
    | with_reducible exact NS.stuck _
    | with_reducible exact NS.unsupported _
    | with_reducible exact NS.boundsPanic _ _ _ _
    | with_reducible exact NS.runtimePanic _
    | with_reducible exact NS.goPanic _
    | with_reducible exact NS.sizeOf _
    | with_reducible exact NS.typeInfo _
    | with_reducible exact NS.underlying _
    | with_reducible exact NS.zeroValue _
    | with_reducible exact NS.isAgg _
    | with_reducible exact NS.sureAddr _
    | with_reducible exact NS.asIntOf _
    | with_reducible exact NS.asInt _
    | with_reducible exact NS.asBool _
    | with_reducible exact NS.asAgg _
    | with_reducible exact NS.asAddr _
    | with_reducible exact NS.part _ _ _
    | with_reducible exact NS.program
    | with_reducible exact NS.choose _
    | with_reducible exact NS.shape _
    | with_reducible exact NS.frozen _
    | with_reducible exact NS.getObj _
    | with_reducible exact NS.newRow _ _
    | with_reducible exact NS.newVar _ _
    | with_reducible exact NS.newObj _
    | with_reducible exact NS.freeze _ _
    | with_reducible exact NS.mark _
    | with_reducible exact NS.load _ _
    | with_reducible exact NS.loadCells _ _
    | with_reducible exact NS.loadVar _ _
    | (with_reducible refine NS.bind ?_ fun _ => ?_)
    | (with_reducible refine NS.map ?_)
    | (with_reducible refine NS.forIn_array _ (fun _ _ => ?_) _ _)
    | (with_reducible refine NS.forIn_range _ (fun _ _ => ?_) _ _)
    | (with_reducible refine NS.forIn_list _ (fun _ _ => ?_) _ _)
    | split
    | dsimp only

theorem NS.floatCmp (op : BinOp) (k : FloatKind) (x y : Nat) : NS (Op.floatCmp op k x y) := by
  unfold Op.floatCmp
  repeat' first
    | with_reducible exact NS.pure _
    | with_reducible exact NS.stuck _
    | with_reducible exact NS.unsupported _
    | with_reducible exact NS.boundsPanic _ _ _ _
    | with_reducible exact NS.runtimePanic _
    | with_reducible exact NS.goPanic _
    | with_reducible exact NS.sizeOf _
    | with_reducible exact NS.typeInfo _
    | with_reducible exact NS.underlying _
    | with_reducible exact NS.zeroValue _
    | with_reducible exact NS.isAgg _
    | with_reducible exact NS.sureAddr _
    | with_reducible exact NS.asIntOf _
    | with_reducible exact NS.asInt _
    | with_reducible exact NS.asBool _
    | with_reducible exact NS.asAgg _
    | with_reducible exact NS.asAddr _
    | with_reducible exact NS.part _ _ _
    | with_reducible exact NS.program
    | with_reducible exact NS.choose _
    | with_reducible exact NS.shape _
    | with_reducible exact NS.frozen _
    | with_reducible exact NS.getObj _
    | with_reducible exact NS.newRow _ _
    | with_reducible exact NS.newVar _ _
    | with_reducible exact NS.newObj _
    | with_reducible exact NS.freeze _ _
    | with_reducible exact NS.mark _
    | with_reducible exact NS.load _ _
    | with_reducible exact NS.loadCells _ _
    | with_reducible exact NS.loadVar _ _
    | (with_reducible refine NS.bind ?_ fun _ => ?_)
    | (with_reducible refine NS.map ?_)
    | (with_reducible refine NS.forIn_array _ (fun _ _ => ?_) _ _)
    | (with_reducible refine NS.forIn_range _ (fun _ _ => ?_) _ _)
    | (with_reducible refine NS.forIn_list _ (fun _ _ => ?_) _ _)
    | split
    | dsimp only

theorem NS.floatToFloat (k : FloatKind) (x : Nat) (l : FloatKind) : NS (Conv.floatToFloat k x l) := by
  unfold Conv.floatToFloat
  repeat' first
    | with_reducible exact NS.pure _
    | with_reducible exact NS.stuck _
    | with_reducible exact NS.unsupported _
    | with_reducible exact NS.boundsPanic _ _ _ _
    | with_reducible exact NS.runtimePanic _
    | with_reducible exact NS.goPanic _
    | with_reducible exact NS.sizeOf _
    | with_reducible exact NS.typeInfo _
    | with_reducible exact NS.underlying _
    | with_reducible exact NS.zeroValue _
    | with_reducible exact NS.isAgg _
    | with_reducible exact NS.sureAddr _
    | with_reducible exact NS.asIntOf _
    | with_reducible exact NS.asInt _
    | with_reducible exact NS.asBool _
    | with_reducible exact NS.asAgg _
    | with_reducible exact NS.asAddr _
    | with_reducible exact NS.part _ _ _
    | with_reducible exact NS.program
    | with_reducible exact NS.choose _
    | with_reducible exact NS.shape _
    | with_reducible exact NS.frozen _
    | with_reducible exact NS.getObj _
    | with_reducible exact NS.newRow _ _
    | with_reducible exact NS.newVar _ _
    | with_reducible exact NS.newObj _
    | with_reducible exact NS.freeze _ _
    | with_reducible exact NS.mark _
    | with_reducible exact NS.load _ _
    | with_reducible exact NS.loadCells _ _
    | with_reducible exact NS.loadVar _ _
    | (with_reducible refine NS.bind ?_ fun _ => ?_)
    | (with_reducible refine NS.map ?_)
    | (with_reducible refine NS.forIn_array _ (fun _ _ => ?_) _ _)
    | (with_reducible refine NS.forIn_range _ (fun _ _ => ?_) _ _)
    | (with_reducible refine NS.forIn_list _ (fun _ _ => ?_) _ _)
    | split
    | dsimp only

theorem NS.carith (op : BinOp) (k : FloatKind) (x y : Nat) : NS (Op.Complex.arith op k x y) := by
  unfold Op.Complex.arith
  repeat' first
    | with_reducible exact NS.pure _
    | with_reducible exact NS.stuck _
    | with_reducible exact NS.unsupported _
    | with_reducible exact NS.boundsPanic _ _ _ _
    | with_reducible exact NS.runtimePanic _
    | with_reducible exact NS.goPanic _
    | with_reducible exact NS.sizeOf _
    | with_reducible exact NS.typeInfo _
    | with_reducible exact NS.underlying _
    | with_reducible exact NS.zeroValue _
    | with_reducible exact NS.isAgg _
    | with_reducible exact NS.sureAddr _
    | with_reducible exact NS.asIntOf _
    | with_reducible exact NS.asInt _
    | with_reducible exact NS.asBool _
    | with_reducible exact NS.asAgg _
    | with_reducible exact NS.asAddr _
    | with_reducible exact NS.part _ _ _
    | with_reducible exact NS.program
    | with_reducible exact NS.choose _
    | with_reducible exact NS.shape _
    | with_reducible exact NS.frozen _
    | with_reducible exact NS.getObj _
    | with_reducible exact NS.newRow _ _
    | with_reducible exact NS.newVar _ _
    | with_reducible exact NS.newObj _
    | with_reducible exact NS.freeze _ _
    | with_reducible exact NS.mark _
    | with_reducible exact NS.load _ _
    | with_reducible exact NS.loadCells _ _
    | with_reducible exact NS.loadVar _ _
    | with_reducible exact NS.floatArith _ _ _ _
    | (with_reducible refine NS.bind ?_ fun _ => ?_)
    | (with_reducible refine NS.map ?_)
    | (with_reducible refine NS.forIn_array _ (fun _ _ => ?_) _ _)
    | (with_reducible refine NS.forIn_range _ (fun _ _ => ?_) _ _)
    | (with_reducible refine NS.forIn_list _ (fun _ _ => ?_) _ _)
    | split
    | dsimp only

theorem NS.ccmp (op : BinOp) (k : FloatKind) (x y : Nat) : NS (Op.Complex.cmp op k x y) := by
  unfold Op.Complex.cmp
  repeat' first
    | with_reducible exact NS.pure _
    | with_reducible exact NS.stuck _
    | with_reducible exact NS.unsupported _
    | with_reducible exact NS.boundsPanic _ _ _ _
    | with_reducible exact NS.runtimePanic _
    | with_reducible exact NS.goPanic _
    | with_reducible exact NS.sizeOf _
    | with_reducible exact NS.typeInfo _
    | with_reducible exact NS.underlying _
    | with_reducible exact NS.zeroValue _
    | with_reducible exact NS.isAgg _
    | with_reducible exact NS.sureAddr _
    | with_reducible exact NS.asIntOf _
    | with_reducible exact NS.asInt _
    | with_reducible exact NS.asBool _
    | with_reducible exact NS.asAgg _
    | with_reducible exact NS.asAddr _
    | with_reducible exact NS.part _ _ _
    | with_reducible exact NS.program
    | with_reducible exact NS.choose _
    | with_reducible exact NS.shape _
    | with_reducible exact NS.frozen _
    | with_reducible exact NS.getObj _
    | with_reducible exact NS.newRow _ _
    | with_reducible exact NS.newVar _ _
    | with_reducible exact NS.newObj _
    | with_reducible exact NS.freeze _ _
    | with_reducible exact NS.mark _
    | with_reducible exact NS.load _ _
    | with_reducible exact NS.loadCells _ _
    | with_reducible exact NS.loadVar _ _
    | with_reducible exact NS.floatCmp _ _ _ _
    | (with_reducible refine NS.bind ?_ fun _ => ?_)
    | (with_reducible refine NS.map ?_)
    | (with_reducible refine NS.forIn_array _ (fun _ _ => ?_) _ _)
    | (with_reducible refine NS.forIn_range _ (fun _ _ => ?_) _ _)
    | (with_reducible refine NS.forIn_list _ (fun _ _ => ?_) _ _)
    | split
    | dsimp only

theorem NS.cconv (k : FloatKind) (x : Nat) (l : FloatKind) : NS (Op.Complex.conv k x l) := by
  unfold Op.Complex.conv
  repeat' first
    | with_reducible exact NS.pure _
    | with_reducible exact NS.stuck _
    | with_reducible exact NS.unsupported _
    | with_reducible exact NS.boundsPanic _ _ _ _
    | with_reducible exact NS.runtimePanic _
    | with_reducible exact NS.goPanic _
    | with_reducible exact NS.sizeOf _
    | with_reducible exact NS.typeInfo _
    | with_reducible exact NS.underlying _
    | with_reducible exact NS.zeroValue _
    | with_reducible exact NS.isAgg _
    | with_reducible exact NS.sureAddr _
    | with_reducible exact NS.asIntOf _
    | with_reducible exact NS.asInt _
    | with_reducible exact NS.asBool _
    | with_reducible exact NS.asAgg _
    | with_reducible exact NS.asAddr _
    | with_reducible exact NS.part _ _ _
    | with_reducible exact NS.program
    | with_reducible exact NS.choose _
    | with_reducible exact NS.shape _
    | with_reducible exact NS.frozen _
    | with_reducible exact NS.getObj _
    | with_reducible exact NS.newRow _ _
    | with_reducible exact NS.newVar _ _
    | with_reducible exact NS.newObj _
    | with_reducible exact NS.freeze _ _
    | with_reducible exact NS.mark _
    | with_reducible exact NS.load _ _
    | with_reducible exact NS.loadCells _ _
    | with_reducible exact NS.loadVar _ _
    | with_reducible exact NS.floatToFloat _ _ _
    | (with_reducible refine NS.bind ?_ fun _ => ?_)
    | (with_reducible refine NS.map ?_)
    | (with_reducible refine NS.forIn_array _ (fun _ _ => ?_) _ _)
    | (with_reducible refine NS.forIn_range _ (fun _ _ => ?_) _ _)
    | (with_reducible refine NS.forIn_list _ (fun _ _ => ?_) _ _)
    | split
    | dsimp only

theorem NS.product (a b c d : Nat) : NS (Op.Complex.product a b c d) := by
  unfold Op.Complex.product Op.Complex.sub Op.Complex.add Op.Complex.mul
  repeat' first
    | with_reducible exact NS.pure _
    | with_reducible exact NS.stuck _
    | with_reducible exact NS.unsupported _
    | with_reducible exact NS.boundsPanic _ _ _ _
    | with_reducible exact NS.runtimePanic _
    | with_reducible exact NS.goPanic _
    | with_reducible exact NS.sizeOf _
    | with_reducible exact NS.typeInfo _
    | with_reducible exact NS.underlying _
    | with_reducible exact NS.zeroValue _
    | with_reducible exact NS.isAgg _
    | with_reducible exact NS.sureAddr _
    | with_reducible exact NS.asIntOf _
    | with_reducible exact NS.asInt _
    | with_reducible exact NS.asBool _
    | with_reducible exact NS.asAgg _
    | with_reducible exact NS.asAddr _
    | with_reducible exact NS.part _ _ _
    | with_reducible exact NS.program
    | with_reducible exact NS.choose _
    | with_reducible exact NS.shape _
    | with_reducible exact NS.frozen _
    | with_reducible exact NS.getObj _
    | with_reducible exact NS.newRow _ _
    | with_reducible exact NS.newVar _ _
    | with_reducible exact NS.newObj _
    | with_reducible exact NS.freeze _ _
    | with_reducible exact NS.mark _
    | with_reducible exact NS.load _ _
    | with_reducible exact NS.loadCells _ _
    | with_reducible exact NS.loadVar _ _
    | with_reducible exact NS.carith _ _ _ _
    | with_reducible exact NS.ccmp _ _ _ _
    | with_reducible exact NS.cconv _ _ _
    | (with_reducible refine NS.bind ?_ fun _ => ?_)
    | (with_reducible refine NS.map ?_)
    | (with_reducible refine NS.forIn_array _ (fun _ _ => ?_) _ _)
    | (with_reducible refine NS.forIn_range _ (fun _ _ => ?_) _ _)
    | (with_reducible refine NS.forIn_list _ (fun _ _ => ?_) _ _)
    | split
    | dsimp only

theorem NS.complexOp (op : BinOp) (hop : op ≠ .quo) (k : FloatKind) (a b c d : Nat) : NS (Op.complexOp op k a b c d) := by
  cases op
  case quo => exact absurd rfl hop
  all_goals
    unfold Op.complexOp
    try simp only [show (BinOp.mul == BinOp.mul) = true from rfl, if_true]
    repeat' first
      | with_reducible exact NS.pure _
      | with_reducible exact NS.stuck _
      | with_reducible exact NS.unsupported _
      | with_reducible exact NS.boundsPanic _ _ _ _
      | with_reducible exact NS.runtimePanic _
      | with_reducible exact NS.goPanic _
      | with_reducible exact NS.sizeOf _
      | with_reducible exact NS.typeInfo _
      | with_reducible exact NS.underlying _
      | with_reducible exact NS.zeroValue _
      | with_reducible exact NS.isAgg _
      | with_reducible exact NS.sureAddr _
      | with_reducible exact NS.asIntOf _
      | with_reducible exact NS.asInt _
      | with_reducible exact NS.asBool _
      | with_reducible exact NS.asAgg _
      | with_reducible exact NS.asAddr _
      | with_reducible exact NS.part _ _ _
      | with_reducible exact NS.program
      | with_reducible exact NS.choose _
      | with_reducible exact NS.shape _
      | with_reducible exact NS.frozen _
      | with_reducible exact NS.getObj _
      | with_reducible exact NS.newRow _ _
      | with_reducible exact NS.newVar _ _
      | with_reducible exact NS.newObj _
      | with_reducible exact NS.freeze _ _
      | with_reducible exact NS.mark _
      | with_reducible exact NS.load _ _
      | with_reducible exact NS.loadCells _ _
      | with_reducible exact NS.loadVar _ _
      | with_reducible exact NS.carith _ _ _ _
      | with_reducible exact NS.ccmp _ _ _ _
      | with_reducible exact NS.cconv _ _ _
      | with_reducible exact NS.product _ _ _ _
      | (with_reducible refine NS.bind ?_ fun _ => ?_)
      | (with_reducible refine NS.map ?_)
      | (with_reducible refine NS.forIn_array _ (fun _ _ => ?_) _ _)
      | (with_reducible refine NS.forIn_range _ (fun _ _ => ?_) _ _)
      | (with_reducible refine NS.forIn_list _ (fun _ _ => ?_) _ _)
      | split
      | dsimp only


theorem NS.equalIn : ∀ (d : Nat) (t : TypeId) (x y : Value), NS (Op.equalIn d t x y)
  | 0, t, x, y => NS.unsupported _
  | d + 1, t, x, y => by
    have ih := NS.equalIn d
    unfold Op.equalIn
    repeat' first
      | with_reducible exact NS.pure _
      | with_reducible exact NS.stuck _
      | with_reducible exact NS.unsupported _
      | with_reducible exact NS.boundsPanic _ _ _ _
      | with_reducible exact NS.runtimePanic _
      | with_reducible exact NS.goPanic _
      | with_reducible exact NS.sizeOf _
      | with_reducible exact NS.typeInfo _
      | with_reducible exact NS.underlying _
      | with_reducible exact NS.zeroValue _
      | with_reducible exact NS.isAgg _
      | with_reducible exact NS.sureAddr _
      | with_reducible exact NS.asIntOf _
      | with_reducible exact NS.asInt _
      | with_reducible exact NS.asBool _
      | with_reducible exact NS.asAgg _
      | with_reducible exact NS.asAddr _
      | with_reducible exact NS.part _ _ _
      | with_reducible exact NS.program
      | with_reducible exact NS.choose _
      | with_reducible exact NS.shape _
      | with_reducible exact NS.frozen _
      | with_reducible exact NS.getObj _
      | with_reducible exact NS.newRow _ _
      | with_reducible exact NS.newVar _ _
      | with_reducible exact NS.newObj _
      | with_reducible exact NS.freeze _ _
      | with_reducible exact NS.mark _
      | with_reducible exact NS.load _ _
      | with_reducible exact NS.loadCells _ _
      | with_reducible exact NS.loadVar _ _
      | with_reducible exact ih _ _ _
      | with_reducible exact NS.behindNumber _
      | with_reducible exact NS.byteOf _
      | with_reducible exact NS.sameAddr _ _
      | with_reducible exact NS.samePointer _ _
      | with_reducible exact NS.typeStr _
      | (with_reducible refine NS.bind ?_ fun _ => ?_)
      | (with_reducible refine NS.map ?_)
      | (with_reducible refine NS.forIn_array _ (fun _ _ => ?_) _ _)
      | (with_reducible refine NS.forIn_range _ (fun _ _ => ?_) _ _)
      | (with_reducible refine NS.forIn_list _ (fun _ _ => ?_) _ _)
      | split
      | dsimp only

theorem NS.equal (t : TypeId) (x y : Value) : NS (Op.equal t x y) := NS.equalIn _ _ _ _
theorem NS.eqGuardIn : ∀ (d : Nat) (t : TypeId) (x y : Value), NS (Op.eqGuardIn d t x y)
  | 0, t, x, y => NS.unsupported _
  | d + 1, t, x, y => by
    have ih := NS.eqGuardIn d
    unfold Op.eqGuardIn
    repeat' first
      | with_reducible exact NS.pure _
      | with_reducible exact NS.stuck _
      | with_reducible exact NS.unsupported _
      | with_reducible exact NS.boundsPanic _ _ _ _
      | with_reducible exact NS.runtimePanic _
      | with_reducible exact NS.goPanic _
      | with_reducible exact NS.sizeOf _
      | with_reducible exact NS.typeInfo _
      | with_reducible exact NS.underlying _
      | with_reducible exact NS.zeroValue _
      | with_reducible exact NS.isAgg _
      | with_reducible exact NS.sureAddr _
      | with_reducible exact NS.asIntOf _
      | with_reducible exact NS.asInt _
      | with_reducible exact NS.asBool _
      | with_reducible exact NS.asAgg _
      | with_reducible exact NS.asAddr _
      | with_reducible exact NS.part _ _ _
      | with_reducible exact NS.program
      | with_reducible exact NS.choose _
      | with_reducible exact NS.shape _
      | with_reducible exact NS.frozen _
      | with_reducible exact NS.getObj _
      | with_reducible exact NS.newRow _ _
      | with_reducible exact NS.newVar _ _
      | with_reducible exact NS.newObj _
      | with_reducible exact NS.freeze _ _
      | with_reducible exact NS.mark _
      | with_reducible exact NS.load _ _
      | with_reducible exact NS.loadCells _ _
      | with_reducible exact NS.loadVar _ _
      | with_reducible exact ih _ _ _
      | (with_reducible refine NS.bind ?_ fun _ => ?_)
      | (with_reducible refine NS.map ?_)
      | (with_reducible refine NS.forIn_array _ (fun _ _ => ?_) _ _)
      | (with_reducible refine NS.forIn_range _ (fun _ _ => ?_) _ _)
      | (with_reducible refine NS.forIn_list _ (fun _ _ => ?_) _ _)
      | split
      | dsimp only

theorem NS.eqGuard (op : BinOp) (t : TypeId) (x y : Operand) (a b : Value) : NS (eqGuard op t x y a b) := by
  unfold Go.eqGuard
  repeat' first
    | with_reducible exact NS.pure _
    | with_reducible exact NS.stuck _
    | with_reducible exact NS.unsupported _
    | with_reducible exact NS.boundsPanic _ _ _ _
    | with_reducible exact NS.runtimePanic _
    | with_reducible exact NS.goPanic _
    | with_reducible exact NS.sizeOf _
    | with_reducible exact NS.typeInfo _
    | with_reducible exact NS.underlying _
    | with_reducible exact NS.zeroValue _
    | with_reducible exact NS.isAgg _
    | with_reducible exact NS.sureAddr _
    | with_reducible exact NS.asIntOf _
    | with_reducible exact NS.asInt _
    | with_reducible exact NS.asBool _
    | with_reducible exact NS.asAgg _
    | with_reducible exact NS.asAddr _
    | with_reducible exact NS.part _ _ _
    | with_reducible exact NS.program
    | with_reducible exact NS.choose _
    | with_reducible exact NS.shape _
    | with_reducible exact NS.frozen _
    | with_reducible exact NS.getObj _
    | with_reducible exact NS.newRow _ _
    | with_reducible exact NS.newVar _ _
    | with_reducible exact NS.newObj _
    | with_reducible exact NS.freeze _ _
    | with_reducible exact NS.mark _
    | with_reducible exact NS.load _ _
    | with_reducible exact NS.loadCells _ _
    | with_reducible exact NS.loadVar _ _
    | with_reducible exact NS.eqGuardIn _ _ _ _
    | (with_reducible refine NS.bind ?_ fun _ => ?_)
    | (with_reducible refine NS.map ?_)
    | (with_reducible refine NS.forIn_array _ (fun _ _ => ?_) _ _)
    | (with_reducible refine NS.forIn_range _ (fun _ _ => ?_) _ _)
    | (with_reducible refine NS.forIn_list _ (fun _ _ => ?_) _ _)
    | split
    | dsimp only

theorem NS.twoPlaces (a b : Addr) : NS (Op.twoPlaces a b) := by
  unfold Op.twoPlaces
  repeat' first
    | with_reducible exact NS.pure _
    | with_reducible exact NS.stuck _
    | with_reducible exact NS.unsupported _
    | with_reducible exact NS.boundsPanic _ _ _ _
    | with_reducible exact NS.runtimePanic _
    | with_reducible exact NS.goPanic _
    | with_reducible exact NS.sizeOf _
    | with_reducible exact NS.typeInfo _
    | with_reducible exact NS.underlying _
    | with_reducible exact NS.zeroValue _
    | with_reducible exact NS.isAgg _
    | with_reducible exact NS.sureAddr _
    | with_reducible exact NS.asIntOf _
    | with_reducible exact NS.asInt _
    | with_reducible exact NS.asBool _
    | with_reducible exact NS.asAgg _
    | with_reducible exact NS.asAddr _
    | with_reducible exact NS.part _ _ _
    | with_reducible exact NS.program
    | with_reducible exact NS.choose _
    | with_reducible exact NS.shape _
    | with_reducible exact NS.frozen _
    | with_reducible exact NS.getObj _
    | with_reducible exact NS.newRow _ _
    | with_reducible exact NS.newVar _ _
    | with_reducible exact NS.newObj _
    | with_reducible exact NS.freeze _ _
    | with_reducible exact NS.mark _
    | with_reducible exact NS.load _ _
    | with_reducible exact NS.loadCells _ _
    | with_reducible exact NS.loadVar _ _
    | with_reducible exact NS.byteOf _
    | (with_reducible refine NS.bind ?_ fun _ => ?_)
    | (with_reducible refine NS.map ?_)
    | (with_reducible refine NS.forIn_array _ (fun _ _ => ?_) _ _)
    | (with_reducible refine NS.forIn_range _ (fun _ _ => ?_) _ _)
    | (with_reducible refine NS.forIn_list _ (fun _ _ => ?_) _ _)
    | split
    | dsimp only

theorem NS.addrSub (k : IntKind) (a b : Addr) : NS (Op.addrSub k a b) := by
  unfold Op.addrSub
  repeat' first
    | with_reducible exact NS.pure _
    | with_reducible exact NS.stuck _
    | with_reducible exact NS.unsupported _
    | with_reducible exact NS.boundsPanic _ _ _ _
    | with_reducible exact NS.runtimePanic _
    | with_reducible exact NS.goPanic _
    | with_reducible exact NS.sizeOf _
    | with_reducible exact NS.typeInfo _
    | with_reducible exact NS.underlying _
    | with_reducible exact NS.zeroValue _
    | with_reducible exact NS.isAgg _
    | with_reducible exact NS.sureAddr _
    | with_reducible exact NS.asIntOf _
    | with_reducible exact NS.asInt _
    | with_reducible exact NS.asBool _
    | with_reducible exact NS.asAgg _
    | with_reducible exact NS.asAddr _
    | with_reducible exact NS.part _ _ _
    | with_reducible exact NS.program
    | with_reducible exact NS.choose _
    | with_reducible exact NS.shape _
    | with_reducible exact NS.frozen _
    | with_reducible exact NS.getObj _
    | with_reducible exact NS.newRow _ _
    | with_reducible exact NS.newVar _ _
    | with_reducible exact NS.newObj _
    | with_reducible exact NS.freeze _ _
    | with_reducible exact NS.mark _
    | with_reducible exact NS.load _ _
    | with_reducible exact NS.loadCells _ _
    | with_reducible exact NS.loadVar _ _
    | with_reducible exact NS.twoPlaces _ _
    | with_reducible exact NS.byteOf _
    | (with_reducible refine NS.bind ?_ fun _ => ?_)
    | (with_reducible refine NS.map ?_)
    | (with_reducible refine NS.forIn_array _ (fun _ _ => ?_) _ _)
    | (with_reducible refine NS.forIn_range _ (fun _ _ => ?_) _ _)
    | (with_reducible refine NS.forIn_list _ (fun _ _ => ?_) _ _)
    | split
    | dsimp only

theorem NS.addrCmp (op : BinOp) (a b : Addr) : NS (Op.addrCmp op a b) := by
  unfold Op.addrCmp
  repeat' first
    | with_reducible exact NS.pure _
    | with_reducible exact NS.stuck _
    | with_reducible exact NS.unsupported _
    | with_reducible exact NS.boundsPanic _ _ _ _
    | with_reducible exact NS.runtimePanic _
    | with_reducible exact NS.goPanic _
    | with_reducible exact NS.sizeOf _
    | with_reducible exact NS.typeInfo _
    | with_reducible exact NS.underlying _
    | with_reducible exact NS.zeroValue _
    | with_reducible exact NS.isAgg _
    | with_reducible exact NS.sureAddr _
    | with_reducible exact NS.asIntOf _
    | with_reducible exact NS.asInt _
    | with_reducible exact NS.asBool _
    | with_reducible exact NS.asAgg _
    | with_reducible exact NS.asAddr _
    | with_reducible exact NS.part _ _ _
    | with_reducible exact NS.program
    | with_reducible exact NS.choose _
    | with_reducible exact NS.shape _
    | with_reducible exact NS.frozen _
    | with_reducible exact NS.getObj _
    | with_reducible exact NS.newRow _ _
    | with_reducible exact NS.newVar _ _
    | with_reducible exact NS.newObj _
    | with_reducible exact NS.freeze _ _
    | with_reducible exact NS.mark _
    | with_reducible exact NS.load _ _
    | with_reducible exact NS.loadCells _ _
    | with_reducible exact NS.loadVar _ _
    | with_reducible exact NS.twoPlaces _ _
    | with_reducible exact NS.byteOf _
    | (with_reducible refine NS.bind ?_ fun _ => ?_)
    | (with_reducible refine NS.map ?_)
    | (with_reducible refine NS.forIn_array _ (fun _ _ => ?_) _ _)
    | (with_reducible refine NS.forIn_range _ (fun _ _ => ?_) _ _)
    | (with_reducible refine NS.forIn_list _ (fun _ _ => ?_) _ _)
    | split
    | dsimp only

theorem NS.addrMod (k : IntKind) (a : Addr) (n : Int) : NS (Op.addrMod k a n) := by
  unfold Op.addrMod
  repeat' first
    | with_reducible exact NS.pure _
    | with_reducible exact NS.stuck _
    | with_reducible exact NS.unsupported _
    | with_reducible exact NS.boundsPanic _ _ _ _
    | with_reducible exact NS.runtimePanic _
    | with_reducible exact NS.goPanic _
    | with_reducible exact NS.sizeOf _
    | with_reducible exact NS.typeInfo _
    | with_reducible exact NS.underlying _
    | with_reducible exact NS.zeroValue _
    | with_reducible exact NS.isAgg _
    | with_reducible exact NS.sureAddr _
    | with_reducible exact NS.asIntOf _
    | with_reducible exact NS.asInt _
    | with_reducible exact NS.asBool _
    | with_reducible exact NS.asAgg _
    | with_reducible exact NS.asAddr _
    | with_reducible exact NS.part _ _ _
    | with_reducible exact NS.program
    | with_reducible exact NS.choose _
    | with_reducible exact NS.shape _
    | with_reducible exact NS.frozen _
    | with_reducible exact NS.getObj _
    | with_reducible exact NS.newRow _ _
    | with_reducible exact NS.newVar _ _
    | with_reducible exact NS.newObj _
    | with_reducible exact NS.freeze _ _
    | with_reducible exact NS.mark _
    | with_reducible exact NS.load _ _
    | with_reducible exact NS.loadCells _ _
    | with_reducible exact NS.loadVar _ _
    | with_reducible exact NS.twoPlaces _ _
    | with_reducible exact NS.byteOf _
    | (with_reducible refine NS.bind ?_ fun _ => ?_)
    | (with_reducible refine NS.map ?_)
    | (with_reducible refine NS.forIn_array _ (fun _ _ => ?_) _ _)
    | (with_reducible refine NS.forIn_range _ (fun _ _ => ?_) _ _)
    | (with_reducible refine NS.forIn_list _ (fun _ _ => ?_) _ _)
    | split
    | dsimp only

theorem NS.unsafeAdd (ts : Array TypeId) (t : TypeId) (x y : Value) : NS (Builtin.unsafeAdd_ ts t #[x, y]) := by
  cases x
  case pointer p =>
    refine NS.bind (s := Go.asInt y) (NS.asInt y) fun n => ?_
    dsimp only
    repeat' first
      | with_reducible exact NS.pure _
      | with_reducible exact NS.stuck _
      | with_reducible exact NS.unsupported _
      | with_reducible exact NS.boundsPanic _ _ _ _
      | with_reducible exact NS.runtimePanic _
      | with_reducible exact NS.goPanic _
      | with_reducible exact NS.sizeOf _
      | with_reducible exact NS.typeInfo _
      | with_reducible exact NS.underlying _
      | with_reducible exact NS.zeroValue _
      | with_reducible exact NS.isAgg _
      | with_reducible exact NS.sureAddr _
      | with_reducible exact NS.asIntOf _
      | with_reducible exact NS.asInt _
      | with_reducible exact NS.asBool _
      | with_reducible exact NS.asAgg _
      | with_reducible exact NS.asAddr _
      | with_reducible exact NS.part _ _ _
      | with_reducible exact NS.program
      | with_reducible exact NS.choose _
      | with_reducible exact NS.shape _
      | with_reducible exact NS.frozen _
      | with_reducible exact NS.getObj _
      | with_reducible exact NS.newRow _ _
      | with_reducible exact NS.newVar _ _
      | with_reducible exact NS.newObj _
      | with_reducible exact NS.freeze _ _
      | with_reducible exact NS.mark _
      | with_reducible exact NS.load _ _
      | with_reducible exact NS.loadCells _ _
      | with_reducible exact NS.loadVar _ _
      | with_reducible exact NS.viewAt _
      | (with_reducible refine NS.bind ?_ fun _ => ?_)
      | (with_reducible refine NS.map ?_)
      | (with_reducible refine NS.forIn_array _ (fun _ _ => ?_) _ _)
      | (with_reducible refine NS.forIn_range _ (fun _ _ => ?_) _ _)
      | (with_reducible refine NS.forIn_list _ (fun _ _ => ?_) _ _)
      | split
      | dsimp only

  all_goals exact NS.stuck _
theorem NS.movedNumber (t : TypeId) (x y : Value) : NS (movedNumber t x y) := by
  unfold Go.movedNumber
  repeat' first
    | with_reducible exact NS.pure _
    | with_reducible exact NS.stuck _
    | with_reducible exact NS.unsupported _
    | with_reducible exact NS.boundsPanic _ _ _ _
    | with_reducible exact NS.runtimePanic _
    | with_reducible exact NS.goPanic _
    | with_reducible exact NS.sizeOf _
    | with_reducible exact NS.typeInfo _
    | with_reducible exact NS.underlying _
    | with_reducible exact NS.zeroValue _
    | with_reducible exact NS.isAgg _
    | with_reducible exact NS.sureAddr _
    | with_reducible exact NS.asIntOf _
    | with_reducible exact NS.asInt _
    | with_reducible exact NS.asBool _
    | with_reducible exact NS.asAgg _
    | with_reducible exact NS.asAddr _
    | with_reducible exact NS.part _ _ _
    | with_reducible exact NS.program
    | with_reducible exact NS.choose _
    | with_reducible exact NS.shape _
    | with_reducible exact NS.frozen _
    | with_reducible exact NS.getObj _
    | with_reducible exact NS.newRow _ _
    | with_reducible exact NS.newVar _ _
    | with_reducible exact NS.newObj _
    | with_reducible exact NS.freeze _ _
    | with_reducible exact NS.mark _
    | with_reducible exact NS.load _ _
    | with_reducible exact NS.loadCells _ _
    | with_reducible exact NS.loadVar _ _
    | with_reducible exact NS.unsafeAdd _ _ _ _
    | with_reducible exact NS.behindNumber _
    | with_reducible exact NS.asNumber _ _
    | (with_reducible refine NS.bind ?_ fun _ => ?_)
    | (with_reducible refine NS.map ?_)
    | (with_reducible refine NS.forIn_array _ (fun _ _ => ?_) _ _)
    | (with_reducible refine NS.forIn_range _ (fun _ _ => ?_) _ _)
    | (with_reducible refine NS.forIn_list _ (fun _ _ => ?_) _ _)
    | split
    | dsimp only

theorem NS.movedPointer (t : TypeId) (x y : Value) : NS (movedPointer t x y) := by
  unfold Go.movedPointer
  repeat' first
    | with_reducible exact NS.pure _
    | with_reducible exact NS.stuck _
    | with_reducible exact NS.unsupported _
    | with_reducible exact NS.boundsPanic _ _ _ _
    | with_reducible exact NS.runtimePanic _
    | with_reducible exact NS.goPanic _
    | with_reducible exact NS.sizeOf _
    | with_reducible exact NS.typeInfo _
    | with_reducible exact NS.underlying _
    | with_reducible exact NS.zeroValue _
    | with_reducible exact NS.isAgg _
    | with_reducible exact NS.sureAddr _
    | with_reducible exact NS.asIntOf _
    | with_reducible exact NS.asInt _
    | with_reducible exact NS.asBool _
    | with_reducible exact NS.asAgg _
    | with_reducible exact NS.asAddr _
    | with_reducible exact NS.part _ _ _
    | with_reducible exact NS.program
    | with_reducible exact NS.choose _
    | with_reducible exact NS.shape _
    | with_reducible exact NS.frozen _
    | with_reducible exact NS.getObj _
    | with_reducible exact NS.newRow _ _
    | with_reducible exact NS.newVar _ _
    | with_reducible exact NS.newObj _
    | with_reducible exact NS.freeze _ _
    | with_reducible exact NS.mark _
    | with_reducible exact NS.load _ _
    | with_reducible exact NS.loadCells _ _
    | with_reducible exact NS.loadVar _ _
    | with_reducible exact NS.unsafeAdd _ _ _ _
    | with_reducible exact NS.numberAt _
    | (with_reducible refine NS.bind ?_ fun _ => ?_)
    | (with_reducible refine NS.map ?_)
    | (with_reducible refine NS.forIn_array _ (fun _ _ => ?_) _ _)
    | (with_reducible refine NS.forIn_range _ (fun _ _ => ?_) _ _)
    | (with_reducible refine NS.forIn_list _ (fun _ _ => ?_) _ _)
    | split
    | dsimp only

theorem NS.binOp (op : BinOp) (hop : op ≠ .quo) (t : TypeId) (x y : Value) : NS (binOp op t x y) := by
  unfold Go.binOp
  repeat' first
    | with_reducible exact NS.pure _
    | with_reducible exact NS.stuck _
    | with_reducible exact NS.unsupported _
    | with_reducible exact NS.boundsPanic _ _ _ _
    | with_reducible exact NS.runtimePanic _
    | with_reducible exact NS.goPanic _
    | with_reducible exact NS.sizeOf _
    | with_reducible exact NS.typeInfo _
    | with_reducible exact NS.underlying _
    | with_reducible exact NS.zeroValue _
    | with_reducible exact NS.isAgg _
    | with_reducible exact NS.sureAddr _
    | with_reducible exact NS.asIntOf _
    | with_reducible exact NS.asInt _
    | with_reducible exact NS.asBool _
    | with_reducible exact NS.asAgg _
    | with_reducible exact NS.asAddr _
    | with_reducible exact NS.part _ _ _
    | with_reducible exact NS.program
    | with_reducible exact NS.choose _
    | with_reducible exact NS.shape _
    | with_reducible exact NS.frozen _
    | with_reducible exact NS.getObj _
    | with_reducible exact NS.newRow _ _
    | with_reducible exact NS.newVar _ _
    | with_reducible exact NS.newObj _
    | with_reducible exact NS.freeze _ _
    | with_reducible exact NS.mark _
    | with_reducible exact NS.load _ _
    | with_reducible exact NS.loadCells _ _
    | with_reducible exact NS.loadVar _ _
    | with_reducible exact NS.shift _ _ _ _ _
    | with_reducible exact NS.intArith _ _ _ _
    | with_reducible exact NS.intDiv _ _ _ _
    | with_reducible exact NS.intBits _ _ _ _
    | with_reducible exact NS.intCmp _ _ _
    | with_reducible exact NS.floatArith _ _ _ _
    | with_reducible exact NS.floatCmp _ _ _ _
    | with_reducible exact NS.complexOp _ hop _ _ _ _ _
    | with_reducible exact NS.stringOp _ _ _
    | with_reducible exact NS.equal _ _ _
    | with_reducible exact NS.movedNumber _ _ _
    | with_reducible exact NS.movedPointer _ _ _
    | with_reducible exact NS.behindNumber _
    | with_reducible exact NS.addrSub _ _ _
    | with_reducible exact NS.addrCmp _ _ _
    | with_reducible exact NS.addrMod _ _ _
    | (with_reducible refine NS.bind ?_ fun _ => ?_)
    | (with_reducible refine NS.map ?_)
    | (with_reducible refine NS.forIn_array _ (fun _ _ => ?_) _ _)
    | (with_reducible refine NS.forIn_range _ (fun _ _ => ?_) _ _)
    | (with_reducible refine NS.forIn_list _ (fun _ _ => ?_) _ _)
    | split
    | dsimp only

theorem NS.bytesToString (x : Value) : NS (Conv.bytesToString x) := by
  unfold Conv.bytesToString
  repeat' first
    | with_reducible exact NS.pure _
    | with_reducible exact NS.stuck _
    | with_reducible exact NS.unsupported _
    | with_reducible exact NS.boundsPanic _ _ _ _
    | with_reducible exact NS.runtimePanic _
    | with_reducible exact NS.goPanic _
    | with_reducible exact NS.sizeOf _
    | with_reducible exact NS.typeInfo _
    | with_reducible exact NS.underlying _
    | with_reducible exact NS.zeroValue _
    | with_reducible exact NS.isAgg _
    | with_reducible exact NS.sureAddr _
    | with_reducible exact NS.asIntOf _
    | with_reducible exact NS.asInt _
    | with_reducible exact NS.asBool _
    | with_reducible exact NS.asAgg _
    | with_reducible exact NS.asAddr _
    | with_reducible exact NS.part _ _ _
    | with_reducible exact NS.program
    | with_reducible exact NS.choose _
    | with_reducible exact NS.shape _
    | with_reducible exact NS.frozen _
    | with_reducible exact NS.getObj _
    | with_reducible exact NS.newRow _ _
    | with_reducible exact NS.newVar _ _
    | with_reducible exact NS.newObj _
    | with_reducible exact NS.freeze _ _
    | with_reducible exact NS.mark _
    | with_reducible exact NS.load _ _
    | with_reducible exact NS.loadCells _ _
    | with_reducible exact NS.loadVar _ _
    | (with_reducible refine NS.bind ?_ fun _ => ?_)
    | (with_reducible refine NS.map ?_)
    | (with_reducible refine NS.forIn_array _ (fun _ _ => ?_) _ _)
    | (with_reducible refine NS.forIn_range _ (fun _ _ => ?_) _ _)
    | (with_reducible refine NS.forIn_list _ (fun _ _ => ?_) _ _)
    | split
    | dsimp only

theorem NS.makeInterface (t : TypeId) (x : Value) : NS (Instr.makeInterface t x) := by
  unfold Instr.makeInterface
  repeat' first
    | with_reducible exact NS.pure _
    | with_reducible exact NS.stuck _
    | with_reducible exact NS.unsupported _
    | with_reducible exact NS.boundsPanic _ _ _ _
    | with_reducible exact NS.runtimePanic _
    | with_reducible exact NS.goPanic _
    | with_reducible exact NS.sizeOf _
    | with_reducible exact NS.typeInfo _
    | with_reducible exact NS.underlying _
    | with_reducible exact NS.zeroValue _
    | with_reducible exact NS.isAgg _
    | with_reducible exact NS.sureAddr _
    | with_reducible exact NS.asIntOf _
    | with_reducible exact NS.asInt _
    | with_reducible exact NS.asBool _
    | with_reducible exact NS.asAgg _
    | with_reducible exact NS.asAddr _
    | with_reducible exact NS.part _ _ _
    | with_reducible exact NS.program
    | with_reducible exact NS.choose _
    | with_reducible exact NS.shape _
    | with_reducible exact NS.frozen _
    | with_reducible exact NS.getObj _
    | with_reducible exact NS.newRow _ _
    | with_reducible exact NS.newVar _ _
    | with_reducible exact NS.newObj _
    | with_reducible exact NS.freeze _ _
    | with_reducible exact NS.mark _
    | with_reducible exact NS.load _ _
    | with_reducible exact NS.loadCells _ _
    | with_reducible exact NS.loadVar _ _
    | (with_reducible refine NS.bind ?_ fun _ => ?_)
    | (with_reducible refine NS.map ?_)
    | (with_reducible refine NS.forIn_array _ (fun _ _ => ?_) _ _)
    | (with_reducible refine NS.forIn_range _ (fun _ _ => ?_) _ _)
    | (with_reducible refine NS.forIn_list _ (fun _ _ => ?_) _ _)
    | split
    | dsimp only

theorem NS.followBlind : ∀ (l : List FieldStep) (t : TypeId) (x : Option Value), NS (followBlind l t x)
  | [], t, x => NS.pure _
  | s :: rest, t, x => by
    have ih := NS.followBlind rest
    unfold Go.followBlind
    repeat' first
      | with_reducible exact NS.pure _
      | with_reducible exact NS.stuck _
      | with_reducible exact NS.unsupported _
      | with_reducible exact NS.boundsPanic _ _ _ _
      | with_reducible exact NS.runtimePanic _
      | with_reducible exact NS.goPanic _
      | with_reducible exact NS.sizeOf _
      | with_reducible exact NS.typeInfo _
      | with_reducible exact NS.underlying _
      | with_reducible exact NS.zeroValue _
      | with_reducible exact NS.isAgg _
      | with_reducible exact NS.sureAddr _
      | with_reducible exact NS.asIntOf _
      | with_reducible exact NS.asInt _
      | with_reducible exact NS.asBool _
      | with_reducible exact NS.asAgg _
      | with_reducible exact NS.asAddr _
      | with_reducible exact NS.part _ _ _
      | with_reducible exact NS.program
      | with_reducible exact NS.choose _
      | with_reducible exact NS.shape _
      | with_reducible exact NS.frozen _
      | with_reducible exact NS.getObj _
      | with_reducible exact NS.newRow _ _
      | with_reducible exact NS.newVar _ _
      | with_reducible exact NS.newObj _
      | with_reducible exact NS.freeze _ _
      | with_reducible exact NS.mark _
      | with_reducible exact NS.load _ _
      | with_reducible exact NS.loadCells _ _
      | with_reducible exact NS.loadVar _ _
      | with_reducible exact ih _ _
      | (with_reducible refine NS.bind ?_ fun _ => ?_)
      | (with_reducible refine NS.map ?_)
      | (with_reducible refine NS.forIn_array _ (fun _ _ => ?_) _ _)
      | (with_reducible refine NS.forIn_range _ (fun _ _ => ?_) _ _)
      | (with_reducible refine NS.forIn_list _ (fun _ _ => ?_) _ _)
      | split
      | dsimp only

theorem NS.nilAhead : ∀ (d : Nat) (t : TypeId) (v : Value) (name : String), NS (nilAhead d t v name)
  | 0, t, v, name => NS.pure _
  | d + 1, t, v, name => by
    have ih := NS.nilAhead d
    unfold Go.nilAhead
    repeat' first
      | with_reducible exact NS.pure _
      | with_reducible exact NS.stuck _
      | with_reducible exact NS.unsupported _
      | with_reducible exact NS.boundsPanic _ _ _ _
      | with_reducible exact NS.runtimePanic _
      | with_reducible exact NS.goPanic _
      | with_reducible exact NS.sizeOf _
      | with_reducible exact NS.typeInfo _
      | with_reducible exact NS.underlying _
      | with_reducible exact NS.zeroValue _
      | with_reducible exact NS.isAgg _
      | with_reducible exact NS.sureAddr _
      | with_reducible exact NS.asIntOf _
      | with_reducible exact NS.asInt _
      | with_reducible exact NS.asBool _
      | with_reducible exact NS.asAgg _
      | with_reducible exact NS.asAddr _
      | with_reducible exact NS.part _ _ _
      | with_reducible exact NS.program
      | with_reducible exact NS.choose _
      | with_reducible exact NS.shape _
      | with_reducible exact NS.frozen _
      | with_reducible exact NS.getObj _
      | with_reducible exact NS.newRow _ _
      | with_reducible exact NS.newVar _ _
      | with_reducible exact NS.newObj _
      | with_reducible exact NS.freeze _ _
      | with_reducible exact NS.mark _
      | with_reducible exact NS.load _ _
      | with_reducible exact NS.loadCells _ _
      | with_reducible exact NS.loadVar _ _
      | with_reducible exact ih _ _ _
      | with_reducible exact NS.followBlind _ _ _
      | (with_reducible refine NS.bind ?_ fun _ => ?_)
      | (with_reducible refine NS.map ?_)
      | (with_reducible refine NS.forIn_array _ (fun _ _ => ?_) _ _)
      | (with_reducible refine NS.forIn_range _ (fun _ _ => ?_) _ _)
      | (with_reducible refine NS.forIn_list _ (fun _ _ => ?_) _ _)
      | split
      | dsimp only

theorem NS.min2 (x y : Value) : NS (Builtin.min2 x y) := by
  unfold Builtin.min2
  repeat' first
    | with_reducible exact NS.pure _
    | with_reducible exact NS.stuck _
    | with_reducible exact NS.unsupported _
    | with_reducible exact NS.boundsPanic _ _ _ _
    | with_reducible exact NS.runtimePanic _
    | with_reducible exact NS.goPanic _
    | with_reducible exact NS.sizeOf _
    | with_reducible exact NS.typeInfo _
    | with_reducible exact NS.underlying _
    | with_reducible exact NS.zeroValue _
    | with_reducible exact NS.isAgg _
    | with_reducible exact NS.sureAddr _
    | with_reducible exact NS.asIntOf _
    | with_reducible exact NS.asInt _
    | with_reducible exact NS.asBool _
    | with_reducible exact NS.asAgg _
    | with_reducible exact NS.asAddr _
    | with_reducible exact NS.part _ _ _
    | with_reducible exact NS.program
    | with_reducible exact NS.choose _
    | with_reducible exact NS.shape _
    | with_reducible exact NS.frozen _
    | with_reducible exact NS.getObj _
    | with_reducible exact NS.newRow _ _
    | with_reducible exact NS.newVar _ _
    | with_reducible exact NS.newObj _
    | with_reducible exact NS.freeze _ _
    | with_reducible exact NS.mark _
    | with_reducible exact NS.load _ _
    | with_reducible exact NS.loadCells _ _
    | with_reducible exact NS.loadVar _ _
    | with_reducible exact NS.stringOp _ _ _
    | (with_reducible refine NS.bind ?_ fun _ => ?_)
    | (with_reducible refine NS.map ?_)
    | (with_reducible refine NS.forIn_array _ (fun _ _ => ?_) _ _)
    | (with_reducible refine NS.forIn_range _ (fun _ _ => ?_) _ _)
    | (with_reducible refine NS.forIn_list _ (fun _ _ => ?_) _ _)
    | split
    | dsimp only

theorem NS.max2 (x y : Value) : NS (Builtin.max2 x y) := by
  unfold Builtin.max2
  repeat' first
    | with_reducible exact NS.pure _
    | with_reducible exact NS.stuck _
    | with_reducible exact NS.unsupported _
    | with_reducible exact NS.boundsPanic _ _ _ _
    | with_reducible exact NS.runtimePanic _
    | with_reducible exact NS.goPanic _
    | with_reducible exact NS.sizeOf _
    | with_reducible exact NS.typeInfo _
    | with_reducible exact NS.underlying _
    | with_reducible exact NS.zeroValue _
    | with_reducible exact NS.isAgg _
    | with_reducible exact NS.sureAddr _
    | with_reducible exact NS.asIntOf _
    | with_reducible exact NS.asInt _
    | with_reducible exact NS.asBool _
    | with_reducible exact NS.asAgg _
    | with_reducible exact NS.asAddr _
    | with_reducible exact NS.part _ _ _
    | with_reducible exact NS.program
    | with_reducible exact NS.choose _
    | with_reducible exact NS.shape _
    | with_reducible exact NS.frozen _
    | with_reducible exact NS.getObj _
    | with_reducible exact NS.newRow _ _
    | with_reducible exact NS.newVar _ _
    | with_reducible exact NS.newObj _
    | with_reducible exact NS.freeze _ _
    | with_reducible exact NS.mark _
    | with_reducible exact NS.load _ _
    | with_reducible exact NS.loadCells _ _
    | with_reducible exact NS.loadVar _ _
    | with_reducible exact NS.stringOp _ _ _
    | (with_reducible refine NS.bind ?_ fun _ => ?_)
    | (with_reducible refine NS.map ?_)
    | (with_reducible refine NS.forIn_array _ (fun _ _ => ?_) _ _)
    | (with_reducible refine NS.forIn_range _ (fun _ _ => ?_) _ _)
    | (with_reducible refine NS.forIn_list _ (fun _ _ => ?_) _ _)
    | split
    | dsimp only

theorem NS.foldlM {α β : Type} (f : β → α → Sem β) (hf : ∀ b a, NS (f b a)) : ∀ (l : List α) (b : β), NS (l.foldlM f b)
  | [], b => NS.pure _
  | a :: l, b => by rw [List.foldlM_cons]; exact NS.bind (hf b a) fun b' => NS.foldlM f hf l b'
theorem NS.min (ts : Array TypeId) (t : TypeId) (xs : Array Value) : NS (Builtin.min_ ts t xs) := by
  unfold Builtin.min_
  split
  · exact NS.stuck _
  · exact NS.foldlM _ NS.min2 _ _
theorem NS.max (ts : Array TypeId) (t : TypeId) (xs : Array Value) : NS (Builtin.max_ ts t xs) := by
  unfold Builtin.max_
  split
  · exact NS.stuck _
  · exact NS.foldlM _ NS.max2 _ _

theorem NS.seenAt (a : Addr) : NS (Conv.seenAt a) := by
  unfold Conv.seenAt
  repeat' first
    | with_reducible exact NS.pure _
    | with_reducible exact NS.stuck _
    | with_reducible exact NS.unsupported _
    | with_reducible exact NS.boundsPanic _ _ _ _
    | with_reducible exact NS.runtimePanic _
    | with_reducible exact NS.goPanic _
    | with_reducible exact NS.sizeOf _
    | with_reducible exact NS.typeInfo _
    | with_reducible exact NS.underlying _
    | with_reducible exact NS.zeroValue _
    | with_reducible exact NS.isAgg _
    | with_reducible exact NS.sureAddr _
    | with_reducible exact NS.asIntOf _
    | with_reducible exact NS.asInt _
    | with_reducible exact NS.asBool _
    | with_reducible exact NS.asAgg _
    | with_reducible exact NS.asAddr _
    | with_reducible exact NS.part _ _ _
    | with_reducible exact NS.program
    | with_reducible exact NS.choose _
    | with_reducible exact NS.shape _
    | with_reducible exact NS.frozen _
    | with_reducible exact NS.getObj _
    | with_reducible exact NS.newRow _ _
    | with_reducible exact NS.newVar _ _
    | with_reducible exact NS.newObj _
    | with_reducible exact NS.freeze _ _
    | with_reducible exact NS.mark _
    | with_reducible exact NS.load _ _
    | with_reducible exact NS.loadCells _ _
    | with_reducible exact NS.loadVar _ _
    | with_reducible exact NS.viewAt _
    | (with_reducible refine NS.bind ?_ fun _ => ?_)
    | (with_reducible refine NS.map ?_)
    | (with_reducible refine NS.forIn_array _ (fun _ _ => ?_) _ _)
    | (with_reducible refine NS.forIn_range _ (fun _ _ => ?_) _ _)
    | (with_reducible refine NS.forIn_list _ (fun _ _ => ?_) _ _)
    | split
    | dsimp only

theorem NS.cellsIn (r : Nat) : NS (cellsIn r) := by
  unfold Go.cellsIn
  repeat' first
    | with_reducible exact NS.pure _
    | with_reducible exact NS.stuck _
    | with_reducible exact NS.unsupported _
    | with_reducible exact NS.boundsPanic _ _ _ _
    | with_reducible exact NS.runtimePanic _
    | with_reducible exact NS.goPanic _
    | with_reducible exact NS.sizeOf _
    | with_reducible exact NS.typeInfo _
    | with_reducible exact NS.underlying _
    | with_reducible exact NS.zeroValue _
    | with_reducible exact NS.isAgg _
    | with_reducible exact NS.sureAddr _
    | with_reducible exact NS.asIntOf _
    | with_reducible exact NS.asInt _
    | with_reducible exact NS.asBool _
    | with_reducible exact NS.asAgg _
    | with_reducible exact NS.asAddr _
    | with_reducible exact NS.part _ _ _
    | with_reducible exact NS.program
    | with_reducible exact NS.choose _
    | with_reducible exact NS.shape _
    | with_reducible exact NS.frozen _
    | with_reducible exact NS.getObj _
    | with_reducible exact NS.newRow _ _
    | with_reducible exact NS.newVar _ _
    | with_reducible exact NS.newObj _
    | with_reducible exact NS.freeze _ _
    | with_reducible exact NS.mark _
    | with_reducible exact NS.load _ _
    | with_reducible exact NS.loadCells _ _
    | with_reducible exact NS.loadVar _ _
    | with_reducible exact NS.viewAt _
    | with_reducible exact NS.numberAt _
    | (with_reducible refine NS.bind ?_ fun _ => ?_)
    | (with_reducible refine NS.map ?_)
    | (with_reducible refine NS.forIn_array _ (fun _ _ => ?_) _ _)
    | (with_reducible refine NS.forIn_range _ (fun _ _ => ?_) _ _)
    | (with_reducible refine NS.forIn_list _ (fun _ _ => ?_) _ _)
    | split
    | dsimp only

theorem NS.variablesAt (a : Addr) (u : TypeId) (n : Nat) : NS (variablesAt a u n) := by
  unfold Go.variablesAt
  repeat' first
    | with_reducible exact NS.pure _
    | with_reducible exact NS.stuck _
    | with_reducible exact NS.unsupported _
    | with_reducible exact NS.boundsPanic _ _ _ _
    | with_reducible exact NS.runtimePanic _
    | with_reducible exact NS.goPanic _
    | with_reducible exact NS.sizeOf _
    | with_reducible exact NS.typeInfo _
    | with_reducible exact NS.underlying _
    | with_reducible exact NS.zeroValue _
    | with_reducible exact NS.isAgg _
    | with_reducible exact NS.sureAddr _
    | with_reducible exact NS.asIntOf _
    | with_reducible exact NS.asInt _
    | with_reducible exact NS.asBool _
    | with_reducible exact NS.asAgg _
    | with_reducible exact NS.asAddr _
    | with_reducible exact NS.part _ _ _
    | with_reducible exact NS.program
    | with_reducible exact NS.choose _
    | with_reducible exact NS.shape _
    | with_reducible exact NS.frozen _
    | with_reducible exact NS.getObj _
    | with_reducible exact NS.newRow _ _
    | with_reducible exact NS.newVar _ _
    | with_reducible exact NS.newObj _
    | with_reducible exact NS.freeze _ _
    | with_reducible exact NS.mark _
    | with_reducible exact NS.load _ _
    | with_reducible exact NS.loadCells _ _
    | with_reducible exact NS.loadVar _ _
    | (with_reducible refine NS.bind ?_ fun _ => ?_)
    | (with_reducible refine NS.map ?_)
    | (with_reducible refine NS.forIn_array _ (fun _ _ => ?_) _ _)
    | (with_reducible refine NS.forIn_range _ (fun _ _ => ?_) _ _)
    | (with_reducible refine NS.forIn_list _ (fun _ _ => ?_) _ _)
    | split
    | dsimp only

theorem NS.markStringish (a : Addr) : NS (markStringish a) := by
  unfold Go.markStringish
  repeat' first
    | with_reducible exact NS.pure _
    | with_reducible exact NS.stuck _
    | with_reducible exact NS.unsupported _
    | with_reducible exact NS.boundsPanic _ _ _ _
    | with_reducible exact NS.runtimePanic _
    | with_reducible exact NS.goPanic _
    | with_reducible exact NS.sizeOf _
    | with_reducible exact NS.typeInfo _
    | with_reducible exact NS.underlying _
    | with_reducible exact NS.zeroValue _
    | with_reducible exact NS.isAgg _
    | with_reducible exact NS.sureAddr _
    | with_reducible exact NS.asIntOf _
    | with_reducible exact NS.asInt _
    | with_reducible exact NS.asBool _
    | with_reducible exact NS.asAgg _
    | with_reducible exact NS.asAddr _
    | with_reducible exact NS.part _ _ _
    | with_reducible exact NS.program
    | with_reducible exact NS.choose _
    | with_reducible exact NS.shape _
    | with_reducible exact NS.frozen _
    | with_reducible exact NS.getObj _
    | with_reducible exact NS.newRow _ _
    | with_reducible exact NS.newVar _ _
    | with_reducible exact NS.newObj _
    | with_reducible exact NS.freeze _ _
    | with_reducible exact NS.mark _
    | with_reducible exact NS.load _ _
    | with_reducible exact NS.loadCells _ _
    | with_reducible exact NS.loadVar _ _
    | with_reducible exact NS.freeze _ _
    | (with_reducible refine NS.bind ?_ fun _ => ?_)
    | (with_reducible refine NS.map ?_)
    | (with_reducible refine NS.forIn_array _ (fun _ _ => ?_) _ _)
    | (with_reducible refine NS.forIn_range _ (fun _ _ => ?_) _ _)
    | (with_reducible refine NS.forIn_list _ (fun _ _ => ?_) _ _)
    | split
    | dsimp only

theorem NS.convUnsafe (s d : TypeId) (x : Value) : NS (Conv.unsafePointer s d x) := by
  unfold Conv.unsafePointer
  repeat' first
    | with_reducible exact NS.pure _
    | with_reducible exact NS.stuck _
    | with_reducible exact NS.unsupported _
    | with_reducible exact NS.boundsPanic _ _ _ _
    | with_reducible exact NS.runtimePanic _
    | with_reducible exact NS.goPanic _
    | with_reducible exact NS.sizeOf _
    | with_reducible exact NS.typeInfo _
    | with_reducible exact NS.underlying _
    | with_reducible exact NS.zeroValue _
    | with_reducible exact NS.isAgg _
    | with_reducible exact NS.sureAddr _
    | with_reducible exact NS.asIntOf _
    | with_reducible exact NS.asInt _
    | with_reducible exact NS.asBool _
    | with_reducible exact NS.asAgg _
    | with_reducible exact NS.asAddr _
    | with_reducible exact NS.part _ _ _
    | with_reducible exact NS.program
    | with_reducible exact NS.choose _
    | with_reducible exact NS.shape _
    | with_reducible exact NS.frozen _
    | with_reducible exact NS.getObj _
    | with_reducible exact NS.newRow _ _
    | with_reducible exact NS.newVar _ _
    | with_reducible exact NS.newObj _
    | with_reducible exact NS.freeze _ _
    | with_reducible exact NS.mark _
    | with_reducible exact NS.load _ _
    | with_reducible exact NS.loadCells _ _
    | with_reducible exact NS.loadVar _ _
    | with_reducible exact NS.seenAt _
    | with_reducible exact NS.cellsIn _
    | with_reducible exact NS.variablesAt _ _ _
    | with_reducible exact NS.asNumber _ _
    | with_reducible exact NS.newObj _
    | (with_reducible refine NS.bind ?_ fun _ => ?_)
    | (with_reducible refine NS.map ?_)
    | (with_reducible refine NS.forIn_array _ (fun _ _ => ?_) _ _)
    | (with_reducible refine NS.forIn_range _ (fun _ _ => ?_) _ _)
    | (with_reducible refine NS.forIn_list _ (fun _ _ => ?_) _ _)
    | split
    | dsimp only

theorem NS.intToFloat (k : FloatKind) (n : Int) : NS (Conv.intToFloat k n) := by
  unfold Conv.intToFloat
  repeat' first
    | with_reducible exact NS.pure _
    | with_reducible exact NS.stuck _
    | with_reducible exact NS.unsupported _
    | with_reducible exact NS.boundsPanic _ _ _ _
    | with_reducible exact NS.runtimePanic _
    | with_reducible exact NS.goPanic _
    | with_reducible exact NS.sizeOf _
    | with_reducible exact NS.typeInfo _
    | with_reducible exact NS.underlying _
    | with_reducible exact NS.zeroValue _
    | with_reducible exact NS.isAgg _
    | with_reducible exact NS.sureAddr _
    | with_reducible exact NS.asIntOf _
    | with_reducible exact NS.asInt _
    | with_reducible exact NS.asBool _
    | with_reducible exact NS.asAgg _
    | with_reducible exact NS.asAddr _
    | with_reducible exact NS.part _ _ _
    | with_reducible exact NS.program
    | with_reducible exact NS.choose _
    | with_reducible exact NS.shape _
    | with_reducible exact NS.frozen _
    | with_reducible exact NS.getObj _
    | with_reducible exact NS.newRow _ _
    | with_reducible exact NS.newVar _ _
    | with_reducible exact NS.newObj _
    | with_reducible exact NS.freeze _ _
    | with_reducible exact NS.mark _
    | with_reducible exact NS.load _ _
    | with_reducible exact NS.loadCells _ _
    | with_reducible exact NS.loadVar _ _
    | (with_reducible refine NS.bind ?_ fun _ => ?_)
    | (with_reducible refine NS.map ?_)
    | (with_reducible refine NS.forIn_array _ (fun _ _ => ?_) _ _)
    | (with_reducible refine NS.forIn_range _ (fun _ _ => ?_) _ _)
    | (with_reducible refine NS.forIn_list _ (fun _ _ => ?_) _ _)
    | split
    | dsimp only

theorem NS.floatToInt (s : FloatKind) (b : Nat) (k : IntKind) : NS (Conv.floatToInt s b k) := by
  unfold Conv.floatToInt
  repeat' first
    | with_reducible exact NS.pure _
    | with_reducible exact NS.stuck _
    | with_reducible exact NS.unsupported _
    | with_reducible exact NS.boundsPanic _ _ _ _
    | with_reducible exact NS.runtimePanic _
    | with_reducible exact NS.goPanic _
    | with_reducible exact NS.sizeOf _
    | with_reducible exact NS.typeInfo _
    | with_reducible exact NS.underlying _
    | with_reducible exact NS.zeroValue _
    | with_reducible exact NS.isAgg _
    | with_reducible exact NS.sureAddr _
    | with_reducible exact NS.asIntOf _
    | with_reducible exact NS.asInt _
    | with_reducible exact NS.asBool _
    | with_reducible exact NS.asAgg _
    | with_reducible exact NS.asAddr _
    | with_reducible exact NS.part _ _ _
    | with_reducible exact NS.program
    | with_reducible exact NS.choose _
    | with_reducible exact NS.shape _
    | with_reducible exact NS.frozen _
    | with_reducible exact NS.getObj _
    | with_reducible exact NS.newRow _ _
    | with_reducible exact NS.newVar _ _
    | with_reducible exact NS.newObj _
    | with_reducible exact NS.freeze _ _
    | with_reducible exact NS.mark _
    | with_reducible exact NS.load _ _
    | with_reducible exact NS.loadCells _ _
    | with_reducible exact NS.loadVar _ _
    | (with_reducible refine NS.bind ?_ fun _ => ?_)
    | (with_reducible refine NS.map ?_)
    | (with_reducible refine NS.forIn_array _ (fun _ _ => ?_) _ _)
    | (with_reducible refine NS.forIn_range _ (fun _ _ => ?_) _ _)
    | (with_reducible refine NS.forIn_list _ (fun _ _ => ?_) _ _)
    | split
    | dsimp only

theorem NS.intToInt (k : IntKind) (n : Int) : NS (Conv.intToInt k n) := by
  unfold Conv.intToInt
  repeat' first
    | with_reducible exact NS.pure _
    | with_reducible exact NS.stuck _
    | with_reducible exact NS.unsupported _
    | with_reducible exact NS.boundsPanic _ _ _ _
    | with_reducible exact NS.runtimePanic _
    | with_reducible exact NS.goPanic _
    | with_reducible exact NS.sizeOf _
    | with_reducible exact NS.typeInfo _
    | with_reducible exact NS.underlying _
    | with_reducible exact NS.zeroValue _
    | with_reducible exact NS.isAgg _
    | with_reducible exact NS.sureAddr _
    | with_reducible exact NS.asIntOf _
    | with_reducible exact NS.asInt _
    | with_reducible exact NS.asBool _
    | with_reducible exact NS.asAgg _
    | with_reducible exact NS.asAddr _
    | with_reducible exact NS.part _ _ _
    | with_reducible exact NS.program
    | with_reducible exact NS.choose _
    | with_reducible exact NS.shape _
    | with_reducible exact NS.frozen _
    | with_reducible exact NS.getObj _
    | with_reducible exact NS.newRow _ _
    | with_reducible exact NS.newVar _ _
    | with_reducible exact NS.newObj _
    | with_reducible exact NS.freeze _ _
    | with_reducible exact NS.mark _
    | with_reducible exact NS.load _ _
    | with_reducible exact NS.loadCells _ _
    | with_reducible exact NS.loadVar _ _
    | (with_reducible refine NS.bind ?_ fun _ => ?_)
    | (with_reducible refine NS.map ?_)
    | (with_reducible refine NS.forIn_array _ (fun _ _ => ?_) _ _)
    | (with_reducible refine NS.forIn_range _ (fun _ _ => ?_) _ _)
    | (with_reducible refine NS.forIn_list _ (fun _ _ => ?_) _ _)
    | split
    | dsimp only

theorem NS.intToString (n : Int) : NS (Conv.intToString n) := by
  unfold Conv.intToString
  repeat' first
    | with_reducible exact NS.pure _
    | with_reducible exact NS.stuck _
    | with_reducible exact NS.unsupported _
    | with_reducible exact NS.boundsPanic _ _ _ _
    | with_reducible exact NS.runtimePanic _
    | with_reducible exact NS.goPanic _
    | with_reducible exact NS.sizeOf _
    | with_reducible exact NS.typeInfo _
    | with_reducible exact NS.underlying _
    | with_reducible exact NS.zeroValue _
    | with_reducible exact NS.isAgg _
    | with_reducible exact NS.sureAddr _
    | with_reducible exact NS.asIntOf _
    | with_reducible exact NS.asInt _
    | with_reducible exact NS.asBool _
    | with_reducible exact NS.asAgg _
    | with_reducible exact NS.asAddr _
    | with_reducible exact NS.part _ _ _
    | with_reducible exact NS.program
    | with_reducible exact NS.choose _
    | with_reducible exact NS.shape _
    | with_reducible exact NS.frozen _
    | with_reducible exact NS.getObj _
    | with_reducible exact NS.newRow _ _
    | with_reducible exact NS.newVar _ _
    | with_reducible exact NS.newObj _
    | with_reducible exact NS.freeze _ _
    | with_reducible exact NS.mark _
    | with_reducible exact NS.load _ _
    | with_reducible exact NS.loadCells _ _
    | with_reducible exact NS.loadVar _ _
    | (with_reducible refine NS.bind ?_ fun _ => ?_)
    | (with_reducible refine NS.map ?_)
    | (with_reducible refine NS.forIn_array _ (fun _ _ => ?_) _ _)
    | (with_reducible refine NS.forIn_range _ (fun _ _ => ?_) _ _)
    | (with_reducible refine NS.forIn_list _ (fun _ _ => ?_) _ _)
    | split
    | dsimp only

theorem NS.complexToComplex (s : FloatKind) (a b : Nat) (k : FloatKind) : NS (Conv.complexToComplex s a b k) := by
  unfold Conv.complexToComplex
  repeat' first
    | with_reducible exact NS.pure _
    | with_reducible exact NS.stuck _
    | with_reducible exact NS.unsupported _
    | with_reducible exact NS.boundsPanic _ _ _ _
    | with_reducible exact NS.runtimePanic _
    | with_reducible exact NS.goPanic _
    | with_reducible exact NS.sizeOf _
    | with_reducible exact NS.typeInfo _
    | with_reducible exact NS.underlying _
    | with_reducible exact NS.zeroValue _
    | with_reducible exact NS.isAgg _
    | with_reducible exact NS.sureAddr _
    | with_reducible exact NS.asIntOf _
    | with_reducible exact NS.asInt _
    | with_reducible exact NS.asBool _
    | with_reducible exact NS.asAgg _
    | with_reducible exact NS.asAddr _
    | with_reducible exact NS.part _ _ _
    | with_reducible exact NS.program
    | with_reducible exact NS.choose _
    | with_reducible exact NS.shape _
    | with_reducible exact NS.frozen _
    | with_reducible exact NS.getObj _
    | with_reducible exact NS.newRow _ _
    | with_reducible exact NS.newVar _ _
    | with_reducible exact NS.newObj _
    | with_reducible exact NS.freeze _ _
    | with_reducible exact NS.mark _
    | with_reducible exact NS.load _ _
    | with_reducible exact NS.loadCells _ _
    | with_reducible exact NS.loadVar _ _
    | with_reducible exact NS.floatToFloat _ _ _
    | (with_reducible refine NS.bind ?_ fun _ => ?_)
    | (with_reducible refine NS.map ?_)
    | (with_reducible refine NS.forIn_array _ (fun _ _ => ?_) _ _)
    | (with_reducible refine NS.forIn_range _ (fun _ _ => ?_) _ _)
    | (with_reducible refine NS.forIn_list _ (fun _ _ => ?_) _ _)
    | split
    | dsimp only

theorem NS.stringToBytes (e : TypeId) (s : ByteArray) : NS (Conv.stringToBytes e s) := by
  unfold Conv.stringToBytes
  repeat' first
    | with_reducible exact NS.pure _
    | with_reducible exact NS.stuck _
    | with_reducible exact NS.unsupported _
    | with_reducible exact NS.boundsPanic _ _ _ _
    | with_reducible exact NS.runtimePanic _
    | with_reducible exact NS.goPanic _
    | with_reducible exact NS.sizeOf _
    | with_reducible exact NS.typeInfo _
    | with_reducible exact NS.underlying _
    | with_reducible exact NS.zeroValue _
    | with_reducible exact NS.isAgg _
    | with_reducible exact NS.sureAddr _
    | with_reducible exact NS.asIntOf _
    | with_reducible exact NS.asInt _
    | with_reducible exact NS.asBool _
    | with_reducible exact NS.asAgg _
    | with_reducible exact NS.asAddr _
    | with_reducible exact NS.part _ _ _
    | with_reducible exact NS.program
    | with_reducible exact NS.choose _
    | with_reducible exact NS.shape _
    | with_reducible exact NS.frozen _
    | with_reducible exact NS.getObj _
    | with_reducible exact NS.newRow _ _
    | with_reducible exact NS.newVar _ _
    | with_reducible exact NS.newObj _
    | with_reducible exact NS.freeze _ _
    | with_reducible exact NS.mark _
    | with_reducible exact NS.load _ _
    | with_reducible exact NS.loadCells _ _
    | with_reducible exact NS.loadVar _ _
    | with_reducible exact NS.markStringish _
    | (with_reducible refine NS.bind ?_ fun _ => ?_)
    | (with_reducible refine NS.map ?_)
    | (with_reducible refine NS.forIn_array _ (fun _ _ => ?_) _ _)
    | (with_reducible refine NS.forIn_range _ (fun _ _ => ?_) _ _)
    | (with_reducible refine NS.forIn_list _ (fun _ _ => ?_) _ _)
    | split
    | dsimp only

theorem NS.stringToRunes (e : TypeId) (s : ByteArray) : NS (Conv.stringToRunes e s) := by
  unfold Conv.stringToRunes
  repeat' first
    | with_reducible exact NS.pure _
    | with_reducible exact NS.stuck _
    | with_reducible exact NS.unsupported _
    | with_reducible exact NS.boundsPanic _ _ _ _
    | with_reducible exact NS.runtimePanic _
    | with_reducible exact NS.goPanic _
    | with_reducible exact NS.sizeOf _
    | with_reducible exact NS.typeInfo _
    | with_reducible exact NS.underlying _
    | with_reducible exact NS.zeroValue _
    | with_reducible exact NS.isAgg _
    | with_reducible exact NS.sureAddr _
    | with_reducible exact NS.asIntOf _
    | with_reducible exact NS.asInt _
    | with_reducible exact NS.asBool _
    | with_reducible exact NS.asAgg _
    | with_reducible exact NS.asAddr _
    | with_reducible exact NS.part _ _ _
    | with_reducible exact NS.program
    | with_reducible exact NS.choose _
    | with_reducible exact NS.shape _
    | with_reducible exact NS.frozen _
    | with_reducible exact NS.getObj _
    | with_reducible exact NS.newRow _ _
    | with_reducible exact NS.newVar _ _
    | with_reducible exact NS.newObj _
    | with_reducible exact NS.freeze _ _
    | with_reducible exact NS.mark _
    | with_reducible exact NS.load _ _
    | with_reducible exact NS.loadCells _ _
    | with_reducible exact NS.loadVar _ _
    | (with_reducible refine NS.bind ?_ fun _ => ?_)
    | (with_reducible refine NS.map ?_)
    | (with_reducible refine NS.forIn_array _ (fun _ _ => ?_) _ _)
    | (with_reducible refine NS.forIn_range _ (fun _ _ => ?_) _ _)
    | (with_reducible refine NS.forIn_list _ (fun _ _ => ?_) _ _)
    | split
    | dsimp only

theorem NS.runesToString (x : Value) : NS (Conv.runesToString x) := by
  unfold Conv.runesToString
  repeat' first
    | with_reducible refine NS.forIn_array _ (fun _ _ => ?_) _ _
    | with_reducible exact NS.pure _
    | with_reducible exact NS.stuck _
    | with_reducible exact NS.unsupported _
    | with_reducible exact NS.boundsPanic _ _ _ _
    | with_reducible exact NS.runtimePanic _
    | with_reducible exact NS.goPanic _
    | with_reducible exact NS.sizeOf _
    | with_reducible exact NS.typeInfo _
    | with_reducible exact NS.underlying _
    | with_reducible exact NS.zeroValue _
    | with_reducible exact NS.isAgg _
    | with_reducible exact NS.sureAddr _
    | with_reducible exact NS.asIntOf _
    | with_reducible exact NS.asInt _
    | with_reducible exact NS.asBool _
    | with_reducible exact NS.asAgg _
    | with_reducible exact NS.asAddr _
    | with_reducible exact NS.part _ _ _
    | with_reducible exact NS.program
    | with_reducible exact NS.choose _
    | with_reducible exact NS.shape _
    | with_reducible exact NS.frozen _
    | with_reducible exact NS.getObj _
    | with_reducible exact NS.newRow _ _
    | with_reducible exact NS.newVar _ _
    | with_reducible exact NS.newObj _
    | with_reducible exact NS.freeze _ _
    | with_reducible exact NS.mark _
    | with_reducible exact NS.load _ _
    | with_reducible exact NS.loadCells _ _
    | with_reducible exact NS.loadVar _ _
    | with_reducible exact NS.loadCells _ _
    | (with_reducible refine NS.bind ?_ fun _ => ?_)
    | (with_reducible refine NS.map ?_)
    | (with_reducible refine NS.forIn_array _ (fun _ _ => ?_) _ _)
    | (with_reducible refine NS.forIn_range _ (fun _ _ => ?_) _ _)
    | (with_reducible refine NS.forIn_list _ (fun _ _ => ?_) _ _)
    | split
    | dsimp only

theorem NS.convert (s d : TypeId) (x : Value) : NS (convert s d x) := by
  unfold Go.convert
  repeat' first
    | with_reducible exact NS.pure _
    | with_reducible exact NS.stuck _
    | with_reducible exact NS.unsupported _
    | with_reducible exact NS.boundsPanic _ _ _ _
    | with_reducible exact NS.runtimePanic _
    | with_reducible exact NS.goPanic _
    | with_reducible exact NS.sizeOf _
    | with_reducible exact NS.typeInfo _
    | with_reducible exact NS.underlying _
    | with_reducible exact NS.zeroValue _
    | with_reducible exact NS.isAgg _
    | with_reducible exact NS.sureAddr _
    | with_reducible exact NS.asIntOf _
    | with_reducible exact NS.asInt _
    | with_reducible exact NS.asBool _
    | with_reducible exact NS.asAgg _
    | with_reducible exact NS.asAddr _
    | with_reducible exact NS.part _ _ _
    | with_reducible exact NS.program
    | with_reducible exact NS.choose _
    | with_reducible exact NS.shape _
    | with_reducible exact NS.frozen _
    | with_reducible exact NS.getObj _
    | with_reducible exact NS.newRow _ _
    | with_reducible exact NS.newVar _ _
    | with_reducible exact NS.newObj _
    | with_reducible exact NS.freeze _ _
    | with_reducible exact NS.mark _
    | with_reducible exact NS.load _ _
    | with_reducible exact NS.loadCells _ _
    | with_reducible exact NS.loadVar _ _
    | with_reducible exact NS.convUnsafe _ _ _
    | with_reducible exact NS.intToFloat _ _
    | with_reducible exact NS.floatToInt _ _ _
    | with_reducible exact NS.floatToFloat _ _ _
    | with_reducible exact NS.intToInt _ _
    | with_reducible exact NS.intToString _
    | with_reducible exact NS.complexToComplex _ _ _ _
    | with_reducible exact NS.stringToBytes _ _
    | with_reducible exact NS.stringToRunes _ _
    | with_reducible exact NS.bytesToString _
    | with_reducible exact NS.runesToString _
    | with_reducible exact NS.markStringish _
    | (with_reducible refine NS.bind ?_ fun _ => ?_)
    | (with_reducible refine NS.map ?_)
    | (with_reducible refine NS.forIn_array _ (fun _ _ => ?_) _ _)
    | (with_reducible refine NS.forIn_range _ (fun _ _ => ?_) _ _)
    | (with_reducible refine NS.forIn_list _ (fun _ _ => ?_) _ _)
    | split
    | dsimp only

/-- Operations that write to no cell. -/
def nsOp : Op → Bool
  | .move _ | .assign _ | .pick .. | .alloc _ | .box .. | .build .. | .buildSlice .. | .load .. | .nilCheck _ | .unOp .. | .slice .. | .fieldAddr .. | .field .. | .indexAddr .. | .index .. | .makeSlice .. | .makeFunc .. | .extract .. | .convert .. => true
  | .binOp op .. => match op with
    | .quo => false
    | _ => true
  | .call { callee := .builtin b, .. } => match b with
    | .len | .cap | .min | .max => true
    | _ => false
  | _ => false

theorem NS.execOp (ρ : Operand → Value) (o : Oper) (h : nsOp o.op = true) : NS (execOp ρ o) := by
  obtain ⟨dst, op, type, pos, after, guard⟩ := o
  have v : ∀ {s : Sem Value}, NS s → NS (do Pure.pure (Next.value (← s)) : Sem Next) := fun hs => NS.bind hs fun _ => NS.pure _
  cases op <;> simp only [nsOp, Bool.false_eq_true] at h <;> simp only [Go.execOp]
  case move x => exact NS.pure _
  case assign x => exact NS.pure _
  case pick c a b => refine NS.bind (NS.asBool _) fun _ => ?_; split <;> exact NS.bind (NS.pure _) fun _ => NS.pure _
  case alloc t => exact v (NS.alloc _)
  case box t x => exact v (NS.box _ _)
  case build t ps => exact v (NS.build _ _)
  case buildSlice t n ps => exact v (NS.buildSlice _ _ _)
  case load t a => exact v (NS.loadAt _ _)
  case nilCheck x =>
    split
    · exact NS.runtimePanic _
    · exact NS.runtimePanic _
    · exact NS.runtimePanic _
    · split
      · exact NS.runtimePanic _
      · refine NS.bind NS.program fun p => NS.bind (NS.nilAhead _ _ _ _) fun r => ?_
        split
        · exact NS.bind (NS.unsupported _) fun _ => NS.pure _
        · exact NS.pure _
      · exact NS.pure _
    · exact NS.pure _
  case binOp op t x y u =>
    have hop : op ≠ .quo := by intro e; subst e; simp at h
    exact v (NS.bind (NS.eqGuard _ _ _ _ _ _) fun _ => NS.binOp _ hop _ _ _)
  case unOp op t x => exact v (NS.unary _ _)
  case slice t x l h m => exact v (NS.sliceAt _ _ _ _ _)
  case fieldAddr t x f => exact v (NS.fieldAt _ _ _)
  case field t x f => exact v (NS.field _ _ _)
  case indexAddr t x i => exact v (NS.indexAt _ _ _)
  case index t x i => exact v (NS.index _ _ _)
  case makeSlice t l c => exact v (NS.makeSlice _ _ _)
  case makeFunc fn a b => exact v (NS.pure _)
  case extract t i => exact v (NS.extract _ _)
  case convert a b x => exact v (NS.convert _ _ _)
  case call c =>
    obtain ⟨callee, args, ts⟩ := c
    cases callee <;> simp only [Bool.false_eq_true] at h
    rename_i b
    cases b <;> simp only [Bool.false_eq_true] at h
    · exact v (NS.cap _ _ _)
    · exact v (NS.len _ _ _)
    · exact v (NS.max _ _ _)
    · exact v (NS.min _ _ _)
end Go.Ev
