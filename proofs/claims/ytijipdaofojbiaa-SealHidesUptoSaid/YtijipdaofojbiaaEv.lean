/-
  A reading of a function's code as a predicate on heaps ('ev'), and the proof that it is sound for the model's calls. Nothing of a given program stands here.
-/
import Derived.Test.YtijipdaofojbiaaNs
import Derived.Orders
import Derived.OrdersHeld
import Derived.OrdersIn
import Derived.TacticsIn
import Derived.RangeFuncRecord
import Derived.Deep.Quiet
import Derived.StillTail
import Derived.Tactics
import Derived.KernelRfl
import Derived.Laws.Sem
import Derived.Laws.CopyRow
import Derived.Laws.Rows
set_option linter.unusedSimpArgs false
set_option linter.unusedVariables false
namespace Go.Ev
open Go

abbrev Heap := Array Obj

/-- But for the heap and the draws a world is as it was. -/
structure Same (w w' : World) : Prop where
  os : w'.os = w.os
  tape : w'.tape = w.tape
  output : w'.output = w.output

theorem Same.refl (w : World) : Same w w := ⟨rfl, rfl, rfl⟩
theorem Same.trans {a b c : World} (h : Same a b) (k : Same b c) : Same a c := ⟨k.os.trans h.os, k.tape.trans h.tape, k.output.trans h.output⟩

/-! ### Kinds of values -/

/-- A slice: where it begins, how long it is, how long it may grow. -/
structure Sl where
  a : Option Addr
  n : Nat
  c : Nat

inductive Kd where
  | int (k : IntKind) | bool | str | ptr | slice | map | agg | any | unit
  | pair (a b : Kd)
  | trip (a b c : Kd)

@[reducible] def Kd.T : Kd → Type
  | .int _ => Int
  | .bool => Bool
  | .str => ByteArray
  | .ptr => Option Addr
  | .slice => Sl
  | .map => Option Nat
  | .agg => Array Value
  | .any => Value
  | .unit => Unit
  | .pair a b => a.T × b.T
  | .trip a b c => a.T × b.T × c.T

def Kd.inj : (k : Kd) → k.T → Value
  | .int k, n => .int k n
  | .bool, b => .bool b
  | .str, s => .string s
  | .ptr, p => .pointer p
  | .slice, s => .slice s.a s.n s.c
  | .map, m => .map m
  | .agg, cs => .agg cs
  | .any, v => v
  | .unit, _ => .tuple #[]
  | .pair a b, x => .tuple #[a.inj x.1, b.inj x.2]
  | .trip a b c, x => .tuple #[a.inj x.1, b.inj x.2.1, c.inj x.2.2]

/-- Reading a value at a kind (of one value, not of a tuple). -/
def Kd.prj : (k : Kd) → Value → Option k.T
  | .int k, .int k' n => if k' = k then some n else none
  | .bool, .bool b => some b
  | .str, .string s => some s
  | .ptr, .pointer p => some p
  | .slice, .slice a n c => some ⟨a, n, c⟩
  | .map, .map m => some m
  | .agg, .agg cs => some cs
  | .any, v => some v
  | _, _ => none

theorem Kd.inj_prj : ∀ (k : Kd) (v : Value) (x : k.T), k.prj v = some x → k.inj x = v := by
  intro k v x h
  cases k <;> cases v <;> simp [Kd.prj] at h <;> first | (subst h; rfl) | (obtain ⟨rfl, rfl⟩ := h; rfl)

/-- The kind of a type. -/
def kindOf1 (P : Program) (t : TypeId) : Kd :=
  match P.underlying t with
  | some (.int k) => .int k
  | some .bool => .bool
  | some .string => .str
  | some (.pointer _) => .ptr
  | some (.slice _) => .slice
  | some (.map _ _) => .map
  | some (.struct _) => .agg
  | some (.array _ _) => .agg
  | _ => .any

def kindOf (P : Program) (t : TypeId) : Kd :=
  match P.underlying t with
  | some (.tuple ts) =>
    match ts.toList with
    | [] => .unit
    | [a, b] => .pair (kindOf1 P a) (kindOf1 P b)
    | [a, b, c] => .trip (kindOf1 P a) (kindOf1 P b) (kindOf1 P c)
    | _ => .any
  | _ => kindOf1 P t

/-- 'map', '++' in a form that the kernel computes. -/
def mapA {α β : Type} (f : α → β) (xs : Array α) : Array β := ⟨xs.toList.map f⟩
def appA {α : Type} (xs ys : Array α) : Array α := ⟨xs.toList ++ ys.toList⟩

theorem mapA_eq {α β : Type} (f : α → β) (xs : Array α) : mapA f xs = xs.map f := by
  apply Array.toList_inj.1; simp [mapA]
theorem appA_eq {α : Type} (xs ys : Array α) : appA xs ys = xs ++ ys := by
  apply Array.toList_inj.1; simp [appA]

/-! ### What an operation does -/

def quietK (P : Program) (k : Kd) (s : Sem Value) (K : k.T → Prop) (h : Heap) : Prop :=
  ∃ x : k.T, (∀ w : World, w.heap = h → s.run P w = .ok (k.inj x) w) ∧ K x

def opK (P : Program) (k : Kd) (s : Sem Value) (K : k.T → Heap → Prop) (h : Heap) : Prop :=
  ∀ w : World, w.heap = h → ∃ (x : k.T) (w' : World), s.run P w = .ok (k.inj x) w' ∧ Same w w' ∧ K x w'.heap

def unitK (P : Program) (s : Sem Unit) (K : Heap → Prop) (h : Heap) : Prop :=
  ∀ w : World, w.heap = h → ∃ w' : World, s.run P w = .ok () w' ∧ Same w w' ∧ K w'.heap

/-- A call of function f: it returns, and R holds of what it returns and of the heap behind it. -/
def HC (P : Program) (f : FuncId) (args : Array Value) (R : Value → Heap → Prop) (h : Heap) : Prop :=
  (∀ w : World, (callFunc f args).run P w = .ok (.enter f args) w) ∧
  ∀ w : World, w.heap = h → Calls P f args w fun e w' => ∃ v, e = .returned v ∧ Same w w' ∧ R v w'.heap

theorem HC.mono {P : Program} {f : FuncId} {args : Array Value} {R R' : Value → Heap → Prop} {h : Heap} (H : HC P f args R h) (hr : ∀ v h', R v h' → R' v h') : HC P f args R' h :=
  ⟨H.1, fun w hw => (H.2 w hw).mono fun _ _ ⟨v, e, s, r⟩ => ⟨v, e, s, hr _ _ r⟩⟩

def callK (P : Program) (k : Kd) (f : FuncId) (args : Array Value) (K : k.T → Heap → Prop) (h : Heap) : Prop :=
  HC P f args (fun v h' => ∃ x : k.T, v = k.inj x ∧ K x h') h

/-- A call that leaves the heap as it is, with one answer. -/
def callQ (P : Program) (k : Kd) (f : FuncId) (args : Array Value) (K : k.T → Prop) (h : Heap) : Prop :=
  ∃ x : k.T, HC P f args (fun v h' => v = k.inj x ∧ h' = h) h ∧ K x

/-- The fences of this text: all is let in; r: the loop whose round the frame is, if it is one. -/
abbrev FW (r : Option Nat) : Fence := { Fence.wide with round := r }

/-- A call of a loop's 'yield': a round comes to its end. -/
def YC (P : Program) (l : Nat) (args : Array Value) (R : Value → Heap → Prop) (h : Heap) : Prop :=
  ∀ w : World, w.heap = h → ∃ f tmps assign body, (Instr.yield l args).run P w = .ok (.round l f tmps assign body) w ∧
    RoundIn (FW none) 0 P l f tmps assign body w fun e w' => ∃ v, e = .returned v ∧ Same w w' ∧ R v w'.heap

/-- A call of a function value. -/
def callV (P : Program) (k : Kd) (fv : Value) (args : Array Value) (K : k.T → Heap → Prop) (h : Heap) : Prop :=
  (∃ f first captured, fv = .func (.func f) first captured ∧ callK P k f (appA (appA first args) captured) K h) ∨
  ∃ l, fv = .func (.yield l) #[] #[] ∧ YC P l args (fun v h' => ∃ x : k.T, v = k.inj x ∧ K x h') h

theorem callV_fn {P : Program} {k : Kd} {f : FuncId} {first captured args : Array Value} {K : k.T → Heap → Prop} {h : Heap} (H : callK P k f (appA (appA first args) captured) K h) : callV P k (.func (.func f) first captured) args K h :=
  .inl ⟨_, _, _, rfl, H⟩
/-- A call of a function that is given from without. -/
def externK (P : Program) (k : Kd) (f : FuncId) (args : Array Value) (K : k.T → Heap → Prop) (h : Heap) : Prop :=
  ∀ w : World, w.heap = h → ∃ (x : k.T) (w' : World), (callFunc f args).run P w = .ok (.value (k.inj x)) w' ∧ Same w w' ∧ K x w'.heap

/-- .. that leaves the heap as it is, with one answer. -/
def callVQ (P : Program) (k : Kd) (fv : Value) (args : Array Value) (K : k.T → Prop) (h : Heap) : Prop :=
  ∃ f first captured, fv = .func (.func f) first captured ∧ callQ P k f (appA (appA first args) captured) K h

/-! ### Steps said in plain words -/

/-- Block b is a row of cells, none of them frozen. -/
def Blk (h : Heap) (b : Nat) (c : Array Value) (e : TypeId) : Prop := h[b]? = some (.cells c e (0, 0))

/-- The same heap, block b being another row. -/
def setBlk (h : Heap) (b : Nat) (c : Array Value) (e : TypeId) : Heap := h.setIfInBounds b (.cells c e (0, 0))

def derefK (p : Option Addr) (K : Addr → Prop) : Prop := ∃ a, p = some a ∧ K a
def idxK (s : Sl) (i : Int) (sz : Nat) (K : Addr → Prop) : Prop := ∃ a, s.a = some a ∧ (0 ≤ i ∧ i < s.n) ∧ K (a.add (i.toNat * sz))
def idxArrK (p : Option Addr) (len : Nat) (i : Int) (sz : Nat) (K : Addr → Prop) : Prop := ∃ a, p = some a ∧ (0 ≤ i ∧ i < len) ∧ K (a.add (i.toNat * sz))
def fldK (p : Option Addr) (off : Nat) (K : Addr → Prop) : Prop := ∃ a, p = some a ∧ K (a.add off)
def loadK (k : Kd) (h : Heap) (p : Option Addr) (K : k.T → Prop) : Prop := ∃ b o c e fz x, p = some ⟨b, o, none⟩ ∧ h[b]? = some (.cells c e fz) ∧ c[o]? = some (k.inj x) ∧ K x
def loadAggK (n : Nat) (h : Heap) (p : Option Addr) (K : Array Value → Prop) : Prop := ∃ b o c e fz, p = some ⟨b, o, none⟩ ∧ h[b]? = some (.cells c e fz) ∧ o + n ≤ c.size ∧ K (c.extract o (o + n))
/-- A struct or an array is made of its parts. -/
def buildK (P : Program) (s : Sem Value) (K : Array Value → Prop) : Prop := ∃ cs, (∀ w : World, s.run P w = .ok (.agg cs) w) ∧ K cs
/-- Two values are held against each other. -/
def eqK (P : Program) (s : Sem Value) (K : Bool → Prop) : Prop := ∃ r, (∀ w : World, s.run P w = .ok (.bool r) w) ∧ K r
/-- What was read reads the same. -/
def stillK (k : Kd) (h : Heap) (p : Option Addr) (v : k.T) : Prop := loadK k h p fun x => k.inj x = k.inj v
def stillAggK (n : Nat) (h : Heap) (p : Option Addr) (v : Array Value) : Prop := loadAggK n h p fun x => Value.agg x = .agg v
def storeK (h : Heap) (p : Option Addr) (v : Value) (K : Heap → Prop) : Prop := ∃ b o c e, p = some ⟨b, o, none⟩ ∧ Blk h b c e ∧ o < c.size ∧ v.oneCell' = true ∧ K (setBlk h b (c.setIfInBounds o v) e)
/-- A row in which some cells are others. -/
def overA (c : Array Value) (o : Nat) (vs : List Value) : Array Value := (c.toList.take o ++ vs ++ c.toList.drop (o + vs.length)).toArray
def storeAggK (n : Nat) (h : Heap) (p : Option Addr) (cs : Array Value) (K : Heap → Prop) : Prop :=
  ∃ b o c e, p = some ⟨b, o, none⟩ ∧ Blk h b c e ∧ cs.size = n ∧ o + n ≤ c.size ∧ (∀ v ∈ cs.toList, v.oneCell' = true) ∧ K (setBlk h b (overA c o cs.toList) e)
def newK (h : Heap) (cells : Array Value) (e : TypeId) (K : Option Addr → Heap → Prop) : Prop := K (some ⟨h.size, 0, none⟩) (h.push (.cells cells e (0, 0)))
def newSlK (h : Heap) (n : Nat) (cells : Array Value) (e : TypeId) (K : Sl → Heap → Prop) : Prop := K ⟨some ⟨h.size, 0, none⟩, n, n⟩ (h.push (.cells cells e (0, 0)))

/-- A bound of a slice expression: left out, or a number from 0 up to another one. -/
def Bound (x : Option Int) (dflt most r : Nat) : Prop :=
  match x with
  | none => r = dflt
  | some i => i = (r : Int) ∧ r ≤ most
def sliceK (s : Sl) (lo hi mx : Option Int) (sz : Nat) (K : Sl → Prop) : Prop :=
  ∃ l h m : Nat, Bound mx s.c s.c m ∧ Bound hi s.n m h ∧ Bound lo 0 h l ∧ K ⟨if m = l then s.a else s.a.map (·.add (l * sz)), h - l, m - l⟩
def sliceArrK (p : Option Addr) (len : Nat) (lo hi mx : Option Int) (sz : Nat) (K : Sl → Prop) : Prop :=
  ∃ a, ∃ l h m : Nat, p = some a ∧ Bound mx len len m ∧ Bound hi len m h ∧ Bound lo 0 h l ∧ K ⟨some (if m = l then a else a.add (l * sz)), h - l, m - l⟩
def partK (k : Kd) (cs : Array Value) (off : Nat) (K : k.T → Prop) : Prop := ∃ x, cs[off]? = some (k.inj x) ∧ K x
def idxValK (k : Kd) (cs : Array Value) (len : Nat) (i : Int) (sz : Nat) (K : k.T → Prop) : Prop := (0 ≤ i ∧ i < len) ∧ partK k cs (i.toNat * sz) K
def idxStrK (s : ByteArray) (i : Int) (K : Int → Prop) : Prop := ∃ b, 0 ≤ i ∧ s[i.toNat]? = some b ∧ K b.toNat
def divK (y : Int) (K : Prop) : Prop := y ≠ 0 ∧ K
def shiftK (y : Int) (K : Prop) : Prop := 0 ≤ y ∧ K

/-- A function value that may be called. -/
def fnK (v : Value) (K : Value → Prop) : Prop := ((∃ f first captured, v = .func (.func f) first captured) ∨ ∃ l, v = .func (.yield l) #[] #[]) ∧ K v
/-- The cells of a type's zero value; how many; how many bytes. -/
def zerosOf (P : Program) (t : TypeId) : Array Value :=
  match P.info? t with
  | some i => match i.zero with
    | some z => z.cells
    | none => #[]
  | none => #[]
def sizeOfT (P : Program) (t : TypeId) : Nat :=
  match P.info? t with
  | some i => i.size
  | none => 0
/-- What an operation is, once its operands' values are known. -/
inductive Does where
  | pure (v : Value)
  | localP (q : (Value → Prop) → Prop)
  | quietP (q : Heap → (Value → Prop) → Prop)
  | effP (q : Heap → (Value → Heap → Prop) → Prop)
  | unitP (q : Heap → (Heap → Prop) → Prop)
  | quiet (s : Sem Value)
  | eff (s : Sem Value)
  | unit (s : Sem Unit)
  | call (f : FuncId) (args : Array Value)
  | callV (f : Value) (args : Array Value)
  | bad

def pureBin (op : BinOp) (x y : Value) : Option Value :=
  match x, y with
  | .int k a, .int k' b =>
    match op with
    | .add => if k = k' then some (.int k (k.wrap (a + b))) else none
    | .sub => if k = k' then some (.int k (k.wrap (a - b))) else none
    | .mul => if k = k' then some (.int k (k.wrap (a * b))) else none
    | .eql => if k = k' then some (.bool (a == b)) else none
    | .neq => if k = k' then some (.bool (a != b)) else none
    | .lss => if k = k' then some (.bool (a < b)) else none
    | .leq => if k = k' then some (.bool (a ≤ b)) else none
    | .gtr => if k = k' then some (.bool (a > b)) else none
    | .geq => if k = k' then some (.bool (a ≥ b)) else none
    | .and => if k = k' then some (.int k (k.wrap (BitVec.ofInt k.bits a &&& BitVec.ofInt k.bits b).toNat)) else none
    | .or => if k = k' then some (.int k (k.wrap (BitVec.ofInt k.bits a ||| BitVec.ofInt k.bits b).toNat)) else none
    | .xor => if k = k' then some (.int k (k.wrap (BitVec.ofInt k.bits a ^^^ BitVec.ofInt k.bits b).toNat)) else none
    | .andNot => if k = k' then some (.int k (k.wrap (BitVec.ofInt k.bits a &&& ~~~(BitVec.ofInt k.bits b)).toNat)) else none
    | _ => none
  | .string a, .string b =>
    match op with
    | .eql => some (.bool (a.toList == b.toList))
    | .neq => some (.bool !(a.toList == b.toList))
    | _ => none
  | _, _ => none

def pureUn (op : UnOp) (x : Value) : Option Value :=
  match op, x with
  | .neg, .int k n => some (.int k (k.wrap (0 - n)))
  | .not, .bool b => some (.bool !b)
  | .xor, .int k n => some (.int k (k.wrap (BitVec.ofInt k.bits (if k.signed then -1 else k.max) ^^^ BitVec.ofInt k.bits n).toNat))
  | _, _ => none

def pureConv (P : Program) (src dst : TypeId) (x : Value) : Option Value :=
  match P.underlying src, P.underlying dst, x with
  | some _, some (.int k), .int _ n => some (.int k (k.wrap n))
  | _, _, _ => none

def pureLen (P : Program) (ts : Array TypeId) (xs : Array Value) : Option Value :=
  match ts.toList, xs.toList with
  | [t], [x] =>
    match P.underlying t, x with
    | some .string, .string s => some (.int .i64 s.size)
    | some (.array n _), _ => some (.int .i64 n)
    | some (.slice _), .slice _ n _ => some (.int .i64 n)
    | _, _ => none
  | _, _ => none

def pureCap (P : Program) (ts : Array TypeId) (xs : Array Value) : Option Value :=
  match ts.toList, xs.toList with
  | [t], [x] =>
    match P.underlying t, x with
    | some (.array n _), _ => some (.int .i64 n)
    | some (.slice _), .slice _ _ c => some (.int .i64 c)
    | _, _ => none
  | _, _ => none

def minInts (k : IntKind) (x : Int) : List Value → Option Int
  | [] => some x
  | .int _ y :: r => minInts k (if y < x then y else x) r
  | _ => none

def maxInts (k : IntKind) (x : Int) : List Value → Option Int
  | [] => some x
  | .int _ y :: r => maxInts k (if x < y then y else x) r
  | _ => none

/-- A value or else a step. -/
def orQuiet (v : Option Value) (s : Sem Value) : Does :=
  match v with
  | some v => .pure v
  | none => .quiet s

def doesLoad (P : Program) (t : TypeId) (v : Value) : Does :=
  match v with
  | .pointer p => match P.underlying t with
    | some (.struct _) | some (.array _ _) => .quietP fun h K => loadAggK (sizeOfT P t) h p fun cs => K (.agg cs)
    | some _ => .quietP fun h K => loadK (kindOf1 P t) h p fun x => K ((kindOf1 P t).inj x)
    | none => .bad
  | _ => .bad

def doesStore (P : Program) (t : TypeId) (v x : Value) : Does :=
  match v with
  | .pointer p => match P.underlying t with
    | some (.struct _) | some (.array _ _) => match x with
      | .agg cs => .unitP fun h K => storeAggK (sizeOfT P t) h p cs K
      | _ => .bad
    | some _ => match sizeOfT P t with
      | 1 => .unitP fun h K => storeK h p x K
      | _ => .bad
    | none => .bad
  | _ => .bad

def doesAlloc (P : Program) (t : TypeId) : Does :=
  match P.info? t with
  | some i => match i.zero with
    | some _ => .effP fun h K => newK h (zerosOf P t) t fun p h' => K (.pointer p) h'
    | none => .bad
  | none => .bad

def inOrder : Nat → List (Nat × Value) → Bool
  | _, [] => true
  | i, (j, v) :: r => match Nat.beq i j, v.oneCell' with
    | true, true => inOrder (i + 1) r
    | _, _ => false

def doesBuildSlice (P : Program) (t : TypeId) (n : Nat) (parts : List (Nat × Value)) : Does :=
  match P.underlying t with
  | some (.slice e) => match sizeOfT P e, (Nat.beq parts.length n && Nat.ble n 100000), inOrder 0 parts with
    | 1, true, true => match P.info? e with
      | some i => match i.zero with
        | some _ => .effP fun h K => newSlK h n ⟨parts.map (·.2)⟩ e fun s h' => K (.slice s.a s.n s.c) h'
        | none => .bad
      | none => .bad
    | _, _, _ => .eff (Instr.buildSlice t n ⟨parts⟩)
  | _ => .bad

def intOf? : Option Value → Option (Option Int)
  | none => some none
  | some (.int _ i) => some (some i)
  | _ => none

def doesSlice (P : Program) (t : TypeId) (x : Value) (lo hi mx : Option Value) : Does :=
  match P.underlying t with
  | some (.slice e) => match P.info? e with
    | some _ => match x, intOf? lo, intOf? hi, intOf? mx with
      | .slice a n c, some lo, some hi, some none => .localP fun K => sliceK ⟨a, n, c⟩ lo hi none (sizeOfT P e) fun s => K (.slice s.a s.n s.c)
      | .slice a n c, some lo, some (some hi), some (some mx) => .localP fun K => sliceK ⟨a, n, c⟩ lo (some hi) (some mx) (sizeOfT P e) fun s => K (.slice s.a s.n s.c)
      | _, _, _, _ => .bad
    | none => .bad
  | some (.array m e) => match P.info? e with
    | some _ => match x, intOf? lo, intOf? hi, intOf? mx with
      | .pointer p, some lo, some hi, some none => .localP fun K => sliceArrK p m lo hi none (sizeOfT P e) fun s => K (.slice s.a s.n s.c)
      | _, _, _, _ => .bad
    | none => .bad
  | _ => .quiet (Instr.sliceAt t x lo hi mx)

def doesFieldAddr (P : Program) (t : TypeId) (v : Value) (f : Nat) : Does :=
  match v with
  | .pointer p => match P.underlying t with
    | some (.struct fs) => match fs.toList[f]? with
      | some fld => match sizeOfT P fld.type with
        | 0 => .quiet (Instr.fieldAt t (.pointer p) f)
        | _ + 1 => .localP fun K => fldK p fld.offset fun a => K (.pointer (some a))
      | none => .bad
    | _ => .bad
  | _ => .bad

def doesIndexAddr (P : Program) (t : TypeId) (x i : Value) : Does :=
  match P.underlying t with
  | some (.slice e) => match P.info? e with
    | some _ => match x, i with
      | .slice a n c, .int _ i => .localP fun K => idxK ⟨a, n, c⟩ i (sizeOfT P e) fun a => K (.pointer (some a))
      | _, _ => .bad
    | none => .bad
  | some (.array m e) => match P.info? e with
    | some _ => match x, i with
      | .pointer p, .int _ i => .localP fun K => idxArrK p m i (sizeOfT P e) fun a => K (.pointer (some a))
      | _, _ => .bad
    | none => .bad
  | _ => .bad

def isAggT (P : Program) (t : TypeId) : Bool :=
  match P.underlying t with
  | some (.struct _) | some (.array _ _) => true
  | _ => false

def hasType (P : Program) (t : TypeId) : Bool :=
  match P.underlying t with
  | some _ => true
  | none => false

def doesField (P : Program) (t : TypeId) (x : Value) (f : Nat) : Does :=
  match P.underlying t, x with
  | some (.struct fs), .agg cs => match fs.toList[f]? with
    | some fld => match hasType P fld.type, isAggT P fld.type with
      | true, true => .pure (.agg (cs.extract fld.offset (fld.offset + sizeOfT P fld.type)))
      | true, false => .localP fun K => partK (kindOf1 P fld.type) cs fld.offset fun x => K ((kindOf1 P fld.type).inj x)
      | false, _ => .bad
    | none => .bad
  | _, _ => .bad

def doesIndex (P : Program) (t : TypeId) (x i : Value) : Does :=
  match P.underlying t, x, i with
  | some (.array m e), .agg cs, .int k i => match hasType P e, isAggT P e with
    | true, false => .localP fun K => idxValK (kindOf1 P e) cs m i (sizeOfT P e) fun x => K ((kindOf1 P e).inj x)
    | true, true => .quiet (Instr.index t (.agg cs) (.int k i))
    | false, _ => .bad
  | some .string, .string s, .int _ i => .localP fun K => idxStrK s i fun n => K (.int .u8 n)
  | _, _, _ => .bad

/-- '==' and '!=' but on whole numbers and strings; other steps on two values. -/
def binSem (op : BinOp) (t : TypeId) (x y : Operand) (a b : Value) : Sem Value := do eqGuard op t x y a b; binOp op t a b

def isNilConst : Operand → Bool
  | .const (.pointer none) => true
  | .const (.slice none _ _) => true
  | .const (.map none) => true
  | _ => false

def doesNil (P : Program) (op : BinOp) (t : TypeId) (x y : Operand) (a b : Value) : Does :=
  match isNilConst y, op, P.underlying t, a, b with
  | true, .eql, some (.pointer _), .pointer p, .pointer none => .pure (.bool p.isNone)
  | true, .neq, some (.pointer _), .pointer p, .pointer none => .pure (.bool !p.isNone)
  | true, .eql, some (.slice _), .slice p _ _, .slice none _ _ => .pure (.bool p.isNone)
  | true, .neq, some (.slice _), .slice p _ _, .slice none _ _ => .pure (.bool !p.isNone)
  | true, .eql, some (.map _ _), .map p, .map none => .pure (.bool p.isNone)
  | true, .neq, some (.map _ _), .map p, .map none => .pure (.bool !p.isNone)
  | _, .eql, _, _, _ => .localP fun K => eqK P (binSem op t x y a b) fun r => K (.bool r)
  | _, .neq, _, _, _ => .localP fun K => eqK P (binSem op t x y a b) fun r => K (.bool r)
  | _, _, _, _, _ => .quiet (binSem op t x y a b)

def doesBin0 (P : Program) (op : BinOp) (t : TypeId) (x y : Operand) (a b : Value) : Does :=
  match pureBin op a b with
  | some v => .pure v
  | none => match a, b with
    | .int k m, .int k' d => match op with
      | .quo => if k = k' then .localP fun K => divK d (K (.int k (k.wrap (m.tdiv d)))) else .bad
      | .rem => if k = k' then .localP fun K => divK d (K (.int k (m.tmod d))) else .bad
      | .shl => .localP fun K => shiftK d (K (.int k (k.wrap (m * 2 ^ min d.toNat k.bits))))
      | .shr => .localP fun K => shiftK d (K (.int k (m.fdiv (2 ^ min d.toNat k.bits))))
      | _ => .bad
    | .bool p, .bool q => match op, P.underlying t with
      | .eql, some .bool => .pure (.bool (p == q))
      | .neq, some .bool => .pure (.bool !(p == q))
      | _, _ => .bad
    | a, b => doesNil P op t x y a b

def isNilFunc : Operand → Bool
  | .const .nilFunc => true
  | _ => false

/-- What a function value is held against nil for is left open. -/
def doesBin (P : Program) (op : BinOp) (t : TypeId) (x y : Operand) (a b : Value) : Does :=
  match isNilFunc y, op with
  | true, .eql => .localP fun K => eqK P (binSem .eql t x y a b) fun r => K (.bool r)
  | true, .neq => .localP fun K => eqK P (binSem .neq t x y a b) fun r => K (.bool r)
  | _, op => doesBin0 P op t x y a b

def doesNilCheck (v : Value) : Does :=
  match v with
  | .pointer p => .localP fun K => derefK p fun a => K (.pointer (some a))
  | .func (.func f) first captured => .pure (.func (.func f) first captured)
  | v => .localP fun K => fnK v K

/-- A function that is given from without. -/
def noBody (P : Program) (f : FuncId) : Bool :=
  match P.funcs[f]? with
  | some fn => fn.body.isNone
  | none => false

/-- A function that is named. -/
def isFuncOp : Operand → Bool
  | .func _ => true
  | _ => false

def does (P : Program) (ρ : Operand → Value) (o : Oper) : Does :=
  match o.op with
  | .move x | .assign x => .pure (ρ x)
  | .pick c a b => match ρ c with
    | .bool true => .pure (ρ a)
    | .bool false => .pure (ρ b)
    | _ => .bad
  | .alloc elem => doesAlloc P elem
  | .box elem x => .effP fun h K => newK h (ρ x).cells elem fun p h' => K (.pointer p) h'
  | .build t parts => .localP fun K => buildK P (Instr.build t (mapA (fun (i, x) => (i, ρ x)) parts)) fun cs => K (.agg cs)
  | .buildSlice t len parts => doesBuildSlice P t len (parts.toList.map fun (i, x) => (i, ρ x))
  | .load t a => doesLoad P t (ρ a)
  | .store t a x => doesStore P t (ρ a) (ρ x)
  | .nilCheck x => doesNilCheck (ρ x)
  | .binOp op t x y _ => doesBin P op t x y (ρ x) (ρ y)
  | .unOp op _ x => match pureUn op (ρ x) with
    | some v => .pure v
    | none => .bad
  | .convert src dst x => match pureConv P src dst (ρ x) with
    | some v => .pure v
    | none => .eff (convert src dst (ρ x))
  | .makeFunc fn first captured => .pure (.func fn (mapA ρ first) (mapA ρ captured))
  | .makeMap t r => .eff (Instr.makeMap t (r.map ρ))
  | .makeSlice t l c => .eff (Instr.makeSlice t (ρ l) (ρ c))
  | .slice t x lo hi mx => doesSlice P t (ρ x) (lo.map ρ) (hi.map ρ) (mx.map ρ)
  | .fieldAddr s x f => doesFieldAddr P s (ρ x) f
  | .field t x f => doesField P t (ρ x) f
  | .indexAddr t x i => doesIndexAddr P t (ρ x) (ρ i)
  | .index t x i => doesIndex P t (ρ x) (ρ i)
  | .lookup t x i ok => .quiet (Instr.lookup t (ρ x) (ρ i) ok)
  | .mapUpdate t m k x | .insert t m k x => .unit (Instr.mapUpdate t (ρ m) (ρ k) (ρ x))
  | .mapEntry t m k => .eff (Instr.mapEntry t (ρ m) (ρ k))
  | .entryStore t m s x => .unit (Instr.entryStore t (ρ m) (ρ s) (ρ x))
  | .range t x => .eff (Instr.range t (ρ x))
  | .next it isString => .eff (Instr.next (ρ it) isString o.type)
  | .entry it => .eff (Instr.entry (ρ it))
  | .makeInterface t x => .eff (Instr.makeInterface t (ρ x))
  | .typeAssert x t u ok => .eff (Instr.typeAssert (ρ x) t u ok)
  | .extract t i => match ρ t with
    | .tuple vs => match vs[i]? with
      | some v => .pure v
      | none => .bad
    | _ => .bad
  | .call { callee := .builtin b, args, argTypes } =>
    match b with
    | .len => orQuiet (pureLen P argTypes (mapA ρ args)) (Builtin.len_ argTypes o.type (mapA ρ args))
    | .cap => orQuiet (pureCap P argTypes (mapA ρ args)) (Builtin.cap_ argTypes o.type (mapA ρ args))
    | .append => .eff (Builtin.append_ argTypes o.type (mapA ρ args))
    | .copy => .eff (Builtin.copy_ argTypes o.type (mapA ρ args))
    | .delete => .eff (Builtin.delete_ argTypes o.type (mapA ρ args))
    | .clear => .eff (Builtin.clear_ argTypes o.type (mapA ρ args))
    | .min => match (mapA ρ args).toList with
      | .int k x :: r => match minInts k x r with
        | some m => .pure (.int k m)
        | none => .bad
      | _ => .bad
    | .max => match (mapA ρ args).toList with
      | .int k x :: r => match maxInts k x r with
        | some m => .pure (.int k m)
        | none => .bad
      | _ => .bad
    | _ => .bad
  | .call { callee := .value f, args, .. } =>
    match isFuncOp f with
    | true => match ρ f with
      | .func (.func f) first captured => match noBody P f with
        | true => .effP fun h K => externK P (kindOf P o.type) f (appA (appA first (mapA ρ args)) captured) (fun x h' => K ((kindOf P o.type).inj x) h') h
        | false => .call f (appA (appA first (mapA ρ args)) captured)
      | v => .callV v (mapA ρ args)
    | false => .callV (ρ f) (mapA ρ args)
  | _ => .bad

/-! ### Its soundness, operation by operation -/

section
variable {P : Program}

theorem pureBin_run {op : BinOp} {t : TypeId} {x y : Operand} {a b v : Value} (h : pureBin op a b = some v) (w : World) :
    (do eqGuard op t x y a b; binOp op t a b : Sem Value).run P w = .ok v w := by
  unfold pureBin at h
  split at h
  · rename_i k m k' m'
    have hg : eqGuard op t x y (.int k m) (.int k' m') = pure () := by unfold eqGuard; split <;> rfl
    rw [hg]
    split at h <;> first
      | (split at h <;> first
          | (rename_i hk; subst hk; simp at h; subst h; simp [binOp, Op.intArith, Op.intCmp, Op.intBits])
          | cases h)
      | cases h
  · rename_i m m'
    have hg : eqGuard op t x y (.string m) (.string m') = pure () := by unfold eqGuard; split <;> rfl
    rw [hg]
    split at h <;> first
      | (simp at h; subst h; simp [binOp, Op.stringOp])
      | cases h
  · cases h

theorem pureUn_run {op : UnOp} {a v : Value} (h : pureUn op a = some v) (w : World) : (Op.unary op a).run P w = .ok v w := by
  unfold pureUn at h
  split at h <;> first
    | (simp at h; subst h; simp [Op.unary, Op.intArith, Op.intBits])
    | cases h

theorem run_underlying {t : TypeId} {d : TypeDesc} (h : P.underlying t = some d) (w : World) : (underlying t).run P w = .ok d w := by
  simp [underlying, program, Sem.run, h]

theorem pureConv_run {src dst : TypeId} {x v : Value} (h : pureConv P src dst x = some v) (w : World) : (convert src dst x).run P w = .ok v w := by
  unfold pureConv at h
  split at h
  · rename_i ds k k' n hs hd
    simp at h; subst h
    unfold convert
    simp [run_underlying hs, run_underlying hd, Conv.intToInt]
  · cases h

theorem array_one {α : Type} {xs : Array α} {x : α} (h : xs.toList = [x]) : xs = #[x] := by
  cases xs; simp at h; simp [h]

theorem pureLen_run {ts : Array TypeId} {t' : TypeId} {xs : Array Value} {v : Value} (h : pureLen P ts xs = some v) (w : World) : (Builtin.len_ ts t' xs).run P w = .ok v w := by
  unfold pureLen at h
  split at h
  · rename_i t x ht hx
    obtain rfl := array_one ht
    obtain rfl := array_one hx
    unfold Builtin.len_
    split at h <;> first
      | (rename_i hu; simp at h; subst h; simp [run_underlying hu, goInt])
      | (rename_i hu _; simp at h; subst h; simp [run_underlying hu, goInt])
      | cases h
  · cases h

theorem pureCap_run {ts : Array TypeId} {t' : TypeId} {xs : Array Value} {v : Value} (h : pureCap P ts xs = some v) (w : World) : (Builtin.cap_ ts t' xs).run P w = .ok v w := by
  unfold pureCap at h
  split at h
  · rename_i t x ht hx
    obtain rfl := array_one ht
    obtain rfl := array_one hx
    unfold Builtin.cap_
    split at h <;> first
      | (rename_i hu; simp at h; subst h; simp [run_underlying hu, goInt])
      | (rename_i hu _; simp at h; subst h; simp [run_underlying hu, goInt])
      | cases h
  · cases h

theorem minInts_run {k : IntKind} : ∀ (r : List Value) (x m : Int), minInts k x r = some m → ∀ w : World, (r.foldlM Builtin.min2 (.int k x)).run P w = .ok (.int k m) w
  | [], x, m, h, w => by simp [minInts] at h; subst h; rfl
  | .int k' y :: r, x, m, h, w => by
    simp only [minInts] at h
    have := minInts_run r _ m h w
    simp [List.foldlM_cons, Builtin.min2, this]
  | .bool _ :: _, _, _, h, _ | .float .. :: _, _, _, h, _ | .complex .. :: _, _, _, h, _ | .string _ :: _, _, _, h, _ | .pointer _ :: _, _, _, h, _ | .slice .. :: _, _, _, h, _
  | .map _ :: _, _, _, h, _ | .chan _ :: _, _, _, h, _ | .func .. :: _, _, _, h, _ | .nilFunc :: _, _, _, h, _ | .iface .. :: _, _, _, h, _ | .nilIface :: _, _, _, h, _
  | .agg _ :: _, _, _, h, _ | .tuple _ :: _, _, _, h, _ => by simp [minInts] at h

theorem maxInts_run {k : IntKind} : ∀ (r : List Value) (x m : Int), maxInts k x r = some m → ∀ w : World, (r.foldlM Builtin.max2 (.int k x)).run P w = .ok (.int k m) w
  | [], x, m, h, w => by simp [maxInts] at h; subst h; rfl
  | .int k' y :: r, x, m, h, w => by
    simp only [maxInts] at h
    have := maxInts_run r _ m h w
    simp [List.foldlM_cons, Builtin.max2, this]
  | .bool _ :: _, _, _, h, _ | .float .. :: _, _, _, h, _ | .complex .. :: _, _, _, h, _ | .string _ :: _, _, _, h, _ | .pointer _ :: _, _, _, h, _ | .slice .. :: _, _, _, h, _
  | .map _ :: _, _, _, h, _ | .chan _ :: _, _, _, h, _ | .func .. :: _, _, _, h, _ | .nilFunc :: _, _, _, h, _ | .iface .. :: _, _, _, h, _ | .nilIface :: _, _, _, h, _
  | .agg _ :: _, _, _, h, _ | .tuple _ :: _, _, _, h, _ => by simp [maxInts] at h

/-- What is known of the operation's own run. -/
def Meets (P : Program) (ρ : Operand → Value) (o : Oper) : Does → Prop
  | .localP q => ∀ K, q K → ∃ v, (∀ w : World, (execOp ρ o).run P w = .ok (.value v) w) ∧ K v
  | .quietP q => ∀ h K, q h K → ∃ v, (∀ w : World, HExt h w.heap → (execOp ρ o).run P w = .ok (.value v) w) ∧ K v
  | .effP q => ∀ h K, q h K → ∀ w : World, w.heap = h → ∃ v w', (execOp ρ o).run P w = .ok (.value v) w' ∧ Same w w' ∧ K v w'.heap
  | .unitP q => ∀ h K, q h K → ∀ w : World, w.heap = h → ∃ w', (execOp ρ o).run P w = .ok .skip w' ∧ Same w w' ∧ K w'.heap
  | .pure v => ∀ w : World, (execOp ρ o).run P w = .ok (.value v) w
  | .quiet s | .eff s => ∀ w : World, (execOp ρ o).run P w = (s.run P w).andThen fun v w' => .ok (.value v) w'
  | .unit s => ∀ w : World, (execOp ρ o).run P w = (s.run P w).andThen fun _ w' => .ok .skip w'
  | .call f args => ∀ w : World, (execOp ρ o).run P w = (callFunc f args).run P w
  | .callV fv args => (∀ f first captured, fv = .func (.func f) first captured → ∀ w : World, (execOp ρ o).run P w = (callFunc f (first ++ args ++ captured)).run P w) ∧
    ∀ l, fv = .func (.yield l) #[] #[] → ∀ w : World, (execOp ρ o).run P w = (Instr.yield l args).run P w
  | .bad => True

/-- The same of a step that gives a value. -/
def MeetsS (P : Program) (s : Sem Value) : Does → Prop
  | .pure v => ∀ w : World, s.run P w = .ok v w
  | .localP q => ∀ K, q K → ∃ v, (∀ w : World, s.run P w = .ok v w) ∧ K v
  | .quietP q => ∀ h K, q h K → ∃ v, (∀ w : World, HExt h w.heap → s.run P w = .ok v w) ∧ K v
  | .effP q => ∀ h K, q h K → ∀ w : World, w.heap = h → ∃ v w', s.run P w = .ok v w' ∧ Same w w' ∧ K v w'.heap
  | .quiet s' | .eff s' => ∀ w : World, s.run P w = s'.run P w
  | .bad => True
  | _ => False

theorem meets_of {ρ : Operand → Value} {o : Oper} {s : Sem Value} {d : Does} (h1 : ∀ w : World, (execOp ρ o).run P w = (s.run P w).andThen fun v w' => .ok (.value v) w')
    (h2 : MeetsS P s d) : Meets P ρ o d := by
  cases d with
  | pure v => intro w; rw [h1 w, h2 w]; rfl
  | localP q =>
    intro K hq
    obtain ⟨v, hv, hk⟩ := h2 K hq
    exact ⟨v, fun w => by rw [h1 w, hv w]; rfl, hk⟩
  | quietP q =>
    intro h K hq
    obtain ⟨v, hv, hk⟩ := h2 h K hq
    exact ⟨v, fun w hw => by rw [h1 w, hv w hw]; rfl, hk⟩
  | effP q =>
    intro h K hq w hw
    obtain ⟨v, w', hv, hs, hk⟩ := h2 h K hq w hw
    exact ⟨v, w', by rw [h1 w, hv]; rfl, hs, hk⟩
  | quiet s' => intro w; rw [h1 w, h2 w]
  | eff s' => intro w; rw [h1 w, h2 w]
  | bad => trivial
  | _ => exact h2.elim

theorem meetsS_orQuiet {v : Option Value} {s : Sem Value} (h2 : ∀ x, v = some x → ∀ w : World, s.run P w = .ok x w) : MeetsS P s (orQuiet v s) := by
  cases v with
  | none => exact fun w => rfl
  | some x => exact h2 x rfl

theorem run_typeInfo {t : TypeId} {i : TypeInfo} (h : P.info? t = some i) (w : World) : (typeInfo t).run P w = .ok i w := by
  simp [typeInfo, program, Sem.run, h]

theorem info_of_underlying {t : TypeId} {d : TypeDesc} (h : P.underlying t = some d) : ∃ i, P.info? t = some i := by
  unfold Program.underlying at h
  cases hi : P.info? t with
  | none => rw [hi] at h; cases h
  | some i => exact ⟨i, rfl⟩

theorem run_sizeOf {t : TypeId} {d : TypeDesc} (h : P.underlying t = some d) (w : World) : (sizeOf t).run P w = .ok (sizeOfT P t) w := by
  obtain ⟨i, hi⟩ := info_of_underlying h
  simp [sizeOf, run_typeInfo hi, sizeOfT, hi]

theorem run_isAgg {t : TypeId} {d : TypeDesc} (h : P.underlying t = some d) (w : World) : (isAgg t).run P w = .ok (isAggT P t) w := by
  unfold isAgg isAggT
  rw [Sem.run_bind, run_underlying h, Result.andThen_ok, h]
  cases d <;> rfl

theorem addr_add (b o n : Nat) : (⟨b, o, none⟩ : Addr).add n = ⟨b, o + n, none⟩ := by
  unfold Addr.add; split <;> simp_all

theorem meets_load (t : TypeId) (v : Value) : MeetsS P (Instr.loadAt t v) (doesLoad P t v) := by
  unfold doesLoad
  split
  case h_2 => trivial
  case h_1 p =>
    have agg : ∀ d, P.underlying t = some d → isAggT P t = true → MeetsS P (Instr.loadAt t (.pointer p)) (.quietP fun h K => loadAggK (sizeOfT P t) h p fun cs => K (.agg cs)) := by
      intro d hu ha h K hq
      obtain ⟨b, o, c, e, fz, rfl, hb, hsz, hk⟩ := hq
      refine ⟨_, fun w hw => ?_, hk⟩
      obtain ⟨fz', hb⟩ := hw b c e fz hb
      simp only [Instr.loadAt, Instr.sureAddr, loadVar]
      simp only [Sem.run_bind, Sem.run_pure, Result.andThen_ok, run_isAgg hu, ha, if_true, run_sizeOf hu]
      have hl := run_loadCells_list (P := P) w ⟨b, o, none⟩ (c.extract o (o + sizeOfT P t)).toList (fun j v hv => by
        rw [addr_add, cell_of_row w b (o + j) c e fz' hb]
        simp only [Array.getElem?_toList] at hv
        rw [Array.getElem?_extract] at hv
        split at hv
        · exact hv
        · cases hv)
      have hlen : (c.extract o (o + sizeOfT P t)).toList.length = sizeOfT P t := by simp; omega
      rw [hlen] at hl
      rw [hl]
      simp only [Result.andThen_ok, Sem.run_pure, Array.toArray_toList]
    cases hu : P.underlying t with
    | none => trivial
    | some d =>
      have one : isAggT P t = false → MeetsS P (Instr.loadAt t (.pointer p)) (.quietP fun h K => loadK (kindOf1 P t) h p fun x => K ((kindOf1 P t).inj x)) := by
        intro ha h K hq
        obtain ⟨b, o, c, e, fz, x, rfl, hb, hc, hk⟩ := hq
        refine ⟨_, fun w hw => ?_, hk⟩
        obtain ⟨fz', hb⟩ := hw b c e fz hb
        simp only [Instr.loadAt, Instr.sureAddr, loadVar]
        simp only [Sem.run_bind, Sem.run_pure, Result.andThen_ok, run_isAgg hu, ha, Bool.false_eq_true, if_false]
        rw [run_load, cell_of_row w b o c e fz' hb, hc]
      cases d <;> first
        | exact agg _ hu (by simp [isAggT, hu])
        | exact one (by simp [isAggT, hu])

theorem modify_eq {h : Heap} {b : Nat} {o o' : Obj} {f : Obj → Obj} (hb : h[b]? = some o) (hf : f o = o') : h.modify b f = h.setIfInBounds b o' := by
  apply Array.ext_getElem?
  intro i
  have hlt : b < h.size := (Array.getElem?_eq_some_iff.1 hb).1
  rw [Array.getElem?_modify, Array.getElem?_setIfInBounds]
  by_cases hbi : b = i
  · subst hbi
    rw [hb]
    simp [hf, hlt]
  · simp [hbi]

/-- The same of a step that gives none. -/
def MeetsU (P : Program) (s : Sem Unit) : Does → Prop
  | .unitP q => ∀ h K, q h K → ∀ w : World, w.heap = h → ∃ w', s.run P w = .ok () w' ∧ Same w w' ∧ K w'.heap
  | .unit s' => ∀ w : World, s.run P w = s'.run P w
  | .bad => True
  | _ => False

theorem meets_ofU {ρ : Operand → Value} {o : Oper} {s : Sem Unit} {d : Does} (h1 : ∀ w : World, (execOp ρ o).run P w = (s.run P w).andThen fun _ w' => .ok .skip w')
    (h2 : MeetsU P s d) : Meets P ρ o d := by
  cases d with
  | unitP q =>
    intro h K hq w hw
    obtain ⟨w', hv, hs, hk⟩ := h2 h K hq w hw
    exact ⟨w', by rw [h1 w, hv]; rfl, hs, hk⟩
  | unit s' => intro w; rw [h1 w, h2 w]
  | bad => trivial
  | _ => exact h2.elim

theorem oneCell_cells {v : Value} (h : v.oneCell' = true) : v.cells = #[v] := by cases v <;> first | rfl | cases h

theorem setRow_heap_eq {w : World} {b : Nat} {c c' : Array Value} {e : TypeId} (hb : Blk w.heap b c e) : (w.setRow b c').heap = setBlk w.heap b c' e := by
  unfold World.setRow setBlk
  exact modify_eq (h := w.heap) (b := b) (o := .cells c e (0, 0)) (o' := .cells c' e (0, 0)) (f := fun | .cells _ elem frozen => .cells c' elem frozen | o => o) hb rfl

theorem setRow_same (w : World) (b : Nat) (c : Array Value) : Same w (w.setRow b c) := ⟨rfl, rfl, rfl⟩

theorem storeVar_run {t : TypeId} {d : TypeDesc} (hu : P.underlying t = some d) {v : Value} {vs : List Value} (hv : v.cells = ⟨vs⟩) (hn : vs.length = sizeOfT P t) {b o : Nat} {c : Array Value} {e : TypeId} {w : World}
    (hb : Blk w.heap b c e) (hsz : o + vs.length ≤ c.size) (h1 : ∀ v ∈ vs, v.oneCell' = true) :
    (Instr.storeAt t (.pointer (some ⟨b, o, none⟩)) v).run P w = .ok () (w.setRow b (overA c o vs)) := by
  have hst := run_storeCells_at (P := P) b o e vs 0 c w hb (by simpa using hsz) h1
  simp only [Instr.storeAt, Instr.sureAddr, storeVar, hv]
  have hne : ¬ (vs.length ≠ sizeOfT P t) := fun x => x hn
  simp only [Sem.run_bind, Sem.run_pure, Result.andThen_ok, run_sizeOf hu, List.size_toArray, Sem.run_ite, if_neg hne]
  rw [hst]
  rfl

theorem overA_one {c : Array Value} {o : Nat} {v : Value} (ho : o < c.size) : overA c o [v] = c.setIfInBounds o v := by
  apply Array.toList_inj.1
  unfold overA
  rw [Array.toList_setIfInBounds]
  simp only [List.length_cons, List.length_nil, Nat.zero_add]
  have hl : o < c.toList.length := by simpa using ho
  rw [List.set_eq_take_append_cons_drop, if_pos hl]
  simp

theorem meets_store (t : TypeId) (v x : Value) : MeetsU P (Instr.storeAt t v x) (doesStore P t v x) := by
  unfold doesStore
  split
  case h_2 => trivial
  case h_1 p =>
    have agg : ∀ d, P.underlying t = some d → MeetsU P (Instr.storeAt t (.pointer p) x) (match x with
      | .agg cs => .unitP fun h K => storeAggK (sizeOfT P t) h p cs K
      | _ => .bad) := by
      intro d hu
      split
      case h_2 => trivial
      case h_1 cs =>
        intro h K hq w hw
        subst hw
        obtain ⟨b, o, c, e, rfl, hb, hcs, hsz, h1, hk⟩ := hq
        refine ⟨_, storeVar_run (vs := cs.toList) hu (by simp [Value.cells]) (by simpa using hcs) hb (by simpa [hcs] using hsz) h1, setRow_same _ _ _, ?_⟩
        rw [setRow_heap_eq hb]; exact hk
    have one : ∀ d, P.underlying t = some d → MeetsU P (Instr.storeAt t (.pointer p) x) (match sizeOfT P t with
      | 1 => .unitP fun h K => storeK h p x K
      | _ => .bad) := by
      intro d hu
      split
      case h_2 => trivial
      case h_1 hs =>
        intro h K hq w hw
        subst hw
        obtain ⟨b, o, c, e, rfl, hb, ho, h1, hk⟩ := hq
        refine ⟨_, storeVar_run (vs := [x]) hu (by rw [oneCell_cells h1]) (by simp [hs]) hb (by simp; omega) (by simpa using h1), setRow_same _ _ _, ?_⟩
        rw [setRow_heap_eq hb, overA_one ho]; exact hk
    cases hu : P.underlying t with
    | none => trivial
    | some d => cases d <;> first
      | exact agg _ hu
      | exact one _ hu

theorem meets_alloc (t : TypeId) : MeetsS P (Instr.alloc t true (.tuple #[])) (doesAlloc P t) := by
  unfold doesAlloc
  split
  case h_2 => trivial
  case h_1 i hi =>
    split
    case h_2 => trivial
    case h_1 z hz =>
      intro h K hq w hw
      subst hw
      refine ⟨.pointer (some ⟨w.heap.size, 0, none⟩), { w with heap := w.heap.push (.cells z.cells t (0, 0)) }, ?_, ⟨rfl, rfl, rfl⟩, ?_⟩
      · simp [Instr.alloc, zeroValue, run_typeInfo hi, hz, newVar, newRow, newObj, Sem.run]
      · have : zerosOf P t = z.cells := by simp [zerosOf, hi, hz]
        unfold newK at hq
        rw [this] at hq
        exact hq

theorem meets_box (t : TypeId) (v : Value) : MeetsS P (Instr.box t v) (.effP fun h K => newK h v.cells t fun p h' => K (.pointer p) h') := by
  intro h K hq w hw
  subst hw
  exact ⟨.pointer (some ⟨w.heap.size, 0, none⟩), { w with heap := w.heap.push (.cells v.cells t (0, 0)) }, by simp [Instr.box, newVar, newRow, newObj, Sem.run], ⟨rfl, rfl, rfl⟩, hq⟩

theorem fill_inOrder : ∀ (parts : List (Nat × Value)) (i : Nat) (cells : Array Value), inOrder i parts = true → i + parts.length ≤ cells.size →
    Instr.fill (fun i => some (i * 1, 1)) cells parts = some (overA cells i (parts.map (·.2)))
  | [], i, cells, _, _ => by simp [Instr.fill, overA]
  | (j, v) :: r, i, cells, h, hl => by
    simp only [inOrder] at h
    split at h
    · rename_i hij hv
      have := Nat.eq_of_beq_eq_true hij
      subst this
      have hc := oneCell_cells hv
      simp only [List.length_cons] at hl
      have hs : ¬ (v.cells.size ≠ 1 ∨ i * 1 + v.cells.size > cells.size) := by rw [hc]; simp; omega
      simp only [Instr.fill, Bool.or_eq_true, decide_eq_true_eq]
      rw [if_neg hs]
      have hf : v.cells.zipIdx.foldl (fun cs (x : Value × Nat) => cs.setIfInBounds (i * 1 + x.2) x.1) cells = cells.setIfInBounds i v := by rw [hc]; simp
      rw [hf, fill_inOrder r (i + 1) _ h (by simp; omega)]
      congr 1
      unfold overA
      rw [Array.toList_setIfInBounds]
      apply congrArg
      have := list_seg_step cells.toList i v (r.map (·.2)) (by simp; omega)
      simpa using this
    · cases h

theorem meets_buildSlice (t : TypeId) (n : Nat) (parts : List (Nat × Value)) : MeetsS P (Instr.buildSlice t n ⟨parts⟩) (doesBuildSlice P t n parts) := by
  unfold doesBuildSlice
  split
  case h_2 => trivial
  case h_1 e he =>
    split
    case h_2 => intro w; rfl
    case h_1 hs hb hin =>
      split
      case h_2 => trivial
      case h_1 i hi =>
        split
        case h_2 => trivial
        case h_1 z hz =>
          intro h K hq w hw
          subst hw
          rw [Bool.and_eq_true] at hb
          have hn := Nat.eq_of_beq_eq_true hb.1
          have hle := Nat.le_of_ble_eq_true hb.2
          have hsz : (sizeOf e).run P w = .ok 1 w := by
            have : sizeOfT P e = 1 := hs
            simp only [sizeOfT, hi] at this
            simp [sizeOf, run_typeInfo hi, this]
          refine ⟨.slice (some ⟨w.heap.size, 0, none⟩) n n, { w with heap := w.heap.push (.cells ⟨parts.map (·.2)⟩ e (0, 0)) }, ?_, ⟨rfl, rfl, rfl⟩, hq⟩
          have hz' : (zeroValue e).run P w = .ok z w := by simp [zeroValue, run_typeInfo hi, hz]
          have hfill : ∀ zero : Array Value, Instr.fill (fun i => some (i * 1, 1)) ((Array.range (n * 1)).map (zero[· % zero.size]!)) parts = some ⟨parts.map (·.2)⟩ := by
            intro zero
            rw [fill_inOrder parts 0 _ hin (by simp; omega)]
            unfold overA
            simp [hn]
          unfold Instr.buildSlice
          simp only [Sem.run_bind, run_underlying he, Result.andThen_ok, hsz]
          rw [if_neg (by omega)]
          by_cases hn0 : n = 0
          · subst hn0
            have hnil : parts = [] := List.length_eq_zero_iff.1 hn
            subst hnil
            have e0 : ∀ f : Nat → Value, (Array.range 0).map f = #[] := fun f => by simp
            simp [Instr.fill, newRow, newObj, Sem.run, e0]
          · have hf := hfill z.cells
            simp only [Nat.mul_one] at hf
            simp [Sem.run_bind, hn0, hz', hf, newRow, newObj, Sem.run]

theorem sliceBound_run {k : IntKind} {i : Int} {m r : Nat} (h : i = (r : Int) ∧ r ≤ m) (code : BoundsCode) (w : World) : (Instr.sliceBound (.int k i) m code).run P w = .ok r w := by
  obtain ⟨rfl, hle⟩ := h
  unfold Instr.sliceBound
  simp only [asIntOf, Sem.run_bind, Sem.run_pure, Result.andThen_ok]
  rw [if_pos ⟨by omega, by omega⟩]
  simp

theorem intOf?_none {x : Option Int} (h : intOf? none = some x) : x = none := by simp [intOf?] at h; exact h.symm
theorem intOf?_some {v : Value} {x : Option Int} (h : intOf? (some v) = some x) : ∃ k i, v = .int k i ∧ x = some i := by
  cases v <;> simp [intOf?] at h
  exact ⟨_, _, rfl, h.symm⟩

theorem sliceBounds_run {isSlice : Bool} {len cap : Nat} {lo hi : Option Value} {xlo xhi : Option Int} (hlo : intOf? lo = some xlo) (hhi : intOf? hi = some xhi) {l h : Nat}
    (h2 : Bound xhi len cap h) (h3 : Bound xlo 0 h l) (w : World) : (Instr.sliceBounds isSlice len cap lo hi none).run P w = .ok (l, h, cap) w := by
  unfold Instr.sliceBounds
  cases hi with
  | none =>
    obtain rfl := intOf?_none hhi
    simp only [Bound] at h2; subst h2
    cases lo with
    | none =>
      obtain rfl := intOf?_none hlo
      simp only [Bound] at h3; subst h3
      simp
    | some v =>
      obtain ⟨k, i, rfl, rfl⟩ := intOf?_some hlo
      simp [sliceBound_run h3]
  | some vh =>
    obtain ⟨kh, ih, rfl, rfl⟩ := intOf?_some hhi
    cases lo with
    | none =>
      obtain rfl := intOf?_none hlo
      simp only [Bound] at h3; subst h3
      simp [sliceBound_run h2]
    | some v =>
      obtain ⟨k, i, rfl, rfl⟩ := intOf?_some hlo
      simp [sliceBound_run h2, sliceBound_run h3]

theorem sliceBounds3_run {isSlice : Bool} {len cap : Nat} {lo hi mx : Option Value} {xlo : Option Int} {xhi xmx : Int} (hlo : intOf? lo = some xlo) (hhi : intOf? hi = some (some xhi)) (hmx : intOf? mx = some (some xmx)) {l h m : Nat}
    (h1 : Bound (some xmx) cap cap m) (h2 : Bound (some xhi) len m h) (h3 : Bound xlo 0 h l) (w : World) : (Instr.sliceBounds isSlice len cap lo hi mx).run P w = .ok (l, h, m) w := by
  unfold Instr.sliceBounds
  cases hi with
  | none => simp [intOf?] at hhi
  | some vh =>
    obtain ⟨kh, ih, rfl, eh⟩ := intOf?_some hhi
    injection eh with eh; subst eh
    cases mx with
    | none => simp [intOf?] at hmx
    | some vm =>
      obtain ⟨km, im, rfl, em⟩ := intOf?_some hmx
      injection em with em; subst em
      cases lo with
      | none =>
        obtain rfl := intOf?_none hlo
        simp only [Bound] at h3; subst h3
        simp [sliceBound_run h1, sliceBound_run h2]
      | some v =>
        obtain ⟨k, i, rfl, rfl⟩ := intOf?_some hlo
        simp [sliceBound_run h1, sliceBound_run h2, sliceBound_run h3]

theorem meets_slice (t : TypeId) (x : Value) (lo hi mx : Option Value) : MeetsS P (Instr.sliceAt t x lo hi mx) (doesSlice P t x lo hi mx) := by
  unfold doesSlice
  split
  · rename_i e he
    split
    case h_2 => trivial
    case h_1 ie hie =>
      have hsz : ∀ w : World, (sizeOf e).run P w = .ok (sizeOfT P e) w := fun w => by simp [sizeOf, run_typeInfo hie, sizeOfT, hie]
      split
      · rename_i a n c xlo xhi hlo hhi hmx
        intro K hq
        obtain ⟨l, hh, m, h1, h2, h3, hk⟩ := hq
        refine ⟨_, fun w => ?_, hk⟩
        simp only [Bound] at h1
        subst h1
        have hmn : mx = none := by
          cases mx with
          | none => rfl
          | some v => obtain ⟨_, _, _, e⟩ := intOf?_some hmx; cases e
        subst hmn
        unfold Instr.sliceAt Instr.slice
        simp only [Sem.run_bind, run_underlying he, Result.andThen_ok, sliceBounds_run hlo hhi h2 h3, hsz]
        rfl
      · rename_i a n c xlo xhi xmx hlo hhi hmx
        intro K hq
        obtain ⟨l, hh, m, h1, h2, h3, hk⟩ := hq
        refine ⟨_, fun w => ?_, hk⟩
        unfold Instr.sliceAt Instr.slice
        simp only [Sem.run_bind, run_underlying he, Result.andThen_ok, sliceBounds3_run hlo hhi hmx h1 h2 h3, hsz]
        rfl
      · trivial
  · rename_i n e he
    split
    case h_2 => trivial
    case h_1 ie hie =>
      have hsz : ∀ w : World, (sizeOf e).run P w = .ok (sizeOfT P e) w := fun w => by simp [sizeOf, run_typeInfo hie, sizeOfT, hie]
      split
      · rename_i p xlo xhi hlo hhi hmx
        intro K hq
        obtain ⟨a, l, hh, m, rfl, h1, h2, h3, hk⟩ := hq
        refine ⟨_, fun w => ?_, hk⟩
        simp only [Bound] at h1
        subst h1
        have hmn : mx = none := by
          cases mx with
          | none => rfl
          | some v => obtain ⟨_, _, _, e⟩ := intOf?_some hmx; cases e
        subst hmn
        unfold Instr.sliceAt
        simp only [Sem.run_bind, run_underlying he, Result.andThen_ok, Instr.sureAddr, Sem.run_pure, sliceBounds_run hlo hhi h2 h3, hsz]
      · trivial
  · exact fun w => rfl

theorem meets_fieldAddr (t : TypeId) (v : Value) (f : Nat) : MeetsS P (Instr.fieldAt t v f) (doesFieldAddr P t v f) := by
  unfold doesFieldAddr
  split
  case h_2 => trivial
  case h_1 p =>
    split
    case h_2 => trivial
    case h_1 fs hu =>
      split
      case h_2 => trivial
      case h_1 fld hf =>
        split
        · exact fun w => rfl
        · rename_i n hn
          intro K hq
          obtain ⟨a, rfl, hk⟩ := hq
          refine ⟨_, fun w => ?_, hk⟩
          have hf' : fs[f]? = some fld := by rw [← Array.getElem?_toList]; exact hf
          obtain ⟨i, hi⟩ : ∃ i, P.info? fld.type = some i := by
            unfold sizeOfT at hn
            cases h : P.info? fld.type with
            | none => rw [h] at hn; cases hn
            | some i => exact ⟨i, rfl⟩
          have hsz : i.size ≠ 0 := by
            have : sizeOfT P fld.type = n + 1 := hn
            simp only [sizeOfT, hi] at this
            omega
          unfold Instr.fieldAt
          simp only [Sem.run_bind, run_underlying hu, Result.andThen_ok, hf', Instr.sureAddr, Sem.run_pure, fieldPlace, sizeOf, run_typeInfo hi, if_neg hsz]

theorem meets_indexAddr (t : TypeId) (x i : Value) : MeetsS P (Instr.indexAt t x i) (doesIndexAddr P t x i) := by
  unfold doesIndexAddr
  split
  · rename_i e hu
    split
    · rename_i ie hie
      split
      · rename_i a n c k i
        intro K hq
        obtain ⟨ad, rfl, hb, hk⟩ := hq
        refine ⟨_, fun w => ?_, hk⟩
        unfold Instr.indexAt
        simp only [asIntOf, Sem.run_bind, Sem.run_pure, run_underlying hu, Result.andThen_ok]
        simp only [] at hb
        rw [if_pos hb]
        simp [sizeOf, run_typeInfo hie, sizeOfT, hie]
      · trivial
    · trivial
  · rename_i m e hu
    split
    · rename_i ie hie
      split
      · rename_i p k i
        intro K hq
        obtain ⟨ad, rfl, hb, hk⟩ := hq
        refine ⟨_, fun w => ?_, hk⟩
        unfold Instr.indexAt
        simp only [asIntOf, Sem.run_bind, Sem.run_pure, run_underlying hu, Result.andThen_ok, Instr.sureAddr]
        rw [if_pos hb]
        simp [sizeOf, run_typeInfo hie, sizeOfT, hie]
      · trivial
    · trivial
  · trivial

theorem run_part {t : TypeId} {d : TypeDesc} (hu : P.underlying t = some d) (cs : Array Value) (off : Nat) {x : (kindOf1 P t).T} (ha : isAggT P t = false) (hx : cs[off]? = some ((kindOf1 P t).inj x)) (w : World) :
    (part t cs off).run P w = .ok ((kindOf1 P t).inj x) w := by
  unfold part
  simp only [Sem.run_bind, run_isAgg hu, Result.andThen_ok, ha, Bool.false_eq_true, if_false, hx, Sem.run_pure]

theorem hasType_spec {t : TypeId} (h : hasType P t = true) : ∃ d, P.underlying t = some d := by
  unfold hasType at h
  split at h
  · exact ⟨_, by assumption⟩
  · cases h

theorem meets_field (t : TypeId) (x : Value) (f : Nat) : MeetsS P (Instr.field t x f) (doesField P t x f) := by
  unfold doesField
  split
  case h_2 => trivial
  case h_1 fs cs hu =>
    split
    case h_2 => trivial
    case h_1 fld hf =>
      have hf' : fs[f]? = some fld := by rw [← Array.getElem?_toList]; exact hf
      split
      · rename_i ht ha
        obtain ⟨d, hd⟩ := hasType_spec ht
        intro w
        unfold Instr.field part
        simp only [Sem.run_bind, run_underlying hu, Result.andThen_ok, hf', asAgg, Sem.run_pure, run_isAgg hd, ha, if_true, run_sizeOf hd]
      · rename_i ht ha
        obtain ⟨d, hd⟩ := hasType_spec ht
        intro K hq
        obtain ⟨y, hy, hk⟩ := hq
        refine ⟨_, fun w => ?_, hk⟩
        unfold Instr.field
        simp only [Sem.run_bind, run_underlying hu, Result.andThen_ok, hf', asAgg, Sem.run_pure, run_part hd cs _ ha hy]
      · trivial

theorem meets_index (t : TypeId) (x i : Value) : MeetsS P (Instr.index t x i) (doesIndex P t x i) := by
  unfold doesIndex
  split
  · rename_i m e cs k i hu
    split
    · rename_i ht ha
      obtain ⟨d, hd⟩ := hasType_spec ht
      intro K hq
      obtain ⟨hb, y, hy, hk⟩ := hq
      refine ⟨_, fun w => ?_, hk⟩
      unfold Instr.index
      simp only [asIntOf, Sem.run_bind, Sem.run_pure, run_underlying hu, Result.andThen_ok]
      rw [if_pos hb]
      simp only [Sem.run_bind, run_sizeOf hd, Result.andThen_ok, run_part hd cs _ ha hy]
    · exact fun w => rfl
    · trivial
  · rename_i s k i hu
    intro K hq
    obtain ⟨b, hb, hs, hk⟩ := hq
    refine ⟨_, fun w => ?_, hk⟩
    unfold Instr.index
    simp only [asIntOf, Sem.run_bind, Sem.run_pure, run_underlying hu, Result.andThen_ok, if_pos hb, hs]
  · trivial

theorem eqGuard_other {op : BinOp} {t : TypeId} {x y : Operand} {a b : Value} (h1 : a ≠ .nilIface) (h2 : ∀ cs, a ≠ .agg cs) : eqGuard op t x y a b = pure () := by
  cases op <;> cases a <;> first | rfl | exact absurd rfl h1 | exact absurd rfl (h2 _)

theorem equal_bool {t : TypeId} (hu : P.underlying t = some .bool) (a b : Bool) (w : World) : (Op.equal t (.bool a) (.bool b)).run P w = .ok (a == b) w := by
  unfold Op.equal Op.maxDepth Op.equalIn
  rw [Sem.run_bind, run_underlying hu, Result.andThen_ok]; rfl
theorem equal_ptr {t e : TypeId} (hu : P.underlying t = some (.pointer e)) (p : Option Addr) (w : World) : (Op.equal t (.pointer p) (.pointer none)).run P w = .ok p.isNone w := by
  unfold Op.equal Op.maxDepth Op.equalIn
  rw [Sem.run_bind, run_underlying hu, Result.andThen_ok]; cases p <;> rfl
theorem equal_slice {t e : TypeId} (hu : P.underlying t = some (.slice e)) (p : Option Addr) (n c n' c' : Nat) (w : World) : (Op.equal t (.slice p n c) (.slice none n' c')).run P w = .ok p.isNone w := by
  unfold Op.equal Op.maxDepth Op.equalIn
  rw [Sem.run_bind, run_underlying hu, Result.andThen_ok]; cases p <;> rfl
theorem equal_map {t k e : TypeId} (hu : P.underlying t = some (.map k e)) (p : Option Nat) (w : World) : (Op.equal t (.map p) (.map none)).run P w = .ok p.isNone w := by
  unfold Op.equal Op.maxDepth Op.equalIn
  rw [Sem.run_bind, run_underlying hu, Result.andThen_ok]; cases p <;> rfl

theorem meets_nil (op : BinOp) (t : TypeId) (x y : Operand) (a b : Value) : MeetsS P (binSem op t x y a b) (doesNil P op t x y a b) := by
  unfold doesNil
  split <;> first
    | (rename_i hu
       intro w
       unfold binSem
       rw [eqGuard_other (by simp) (by simp)]
       simp only [binOp, Sem.run_bind, Sem.run_pure, Result.andThen_ok, equal_ptr hu, equal_slice hu, equal_map hu])
    | (rename_i hu
       intro w
       unfold binSem
       rw [eqGuard_other (by simp) (by simp)]
       first
         | simp only [binOp, Sem.run_bind, Sem.run_pure, Result.andThen_ok, equal_ptr hu]
         | simp only [binOp, Sem.run_bind, Sem.run_pure, Result.andThen_ok, equal_slice hu]
         | simp only [binOp, Sem.run_bind, Sem.run_pure, Result.andThen_ok, equal_map hu])
    | exact fun K ⟨r, hr, hk⟩ => ⟨_, hr, hk⟩
    | exact fun w => rfl

theorem meets_bin0 (op : BinOp) (t : TypeId) (x y : Operand) (a b : Value) : MeetsS P (binSem op t x y a b) (doesBin0 P op t x y a b) := by
  unfold doesBin0
  split
  · rename_i v hv; exact fun w => pureBin_run hv w
  · split
    · rename_i k m k' d _
      have hg : eqGuard op t x y (.int k m) (.int k' d) = pure () := eqGuard_other (by simp) (by simp)
      split
      · split
        · rename_i hk; subst hk
          intro K hq
          obtain ⟨hy, hk⟩ := hq
          refine ⟨_, fun w => ?_, hk⟩
          unfold binSem
          rw [hg]
          simp [binOp, Op.intDiv, hy]
        · trivial
      · split
        · rename_i hk; subst hk
          intro K hq
          obtain ⟨hy, hk⟩ := hq
          refine ⟨_, fun w => ?_, hk⟩
          unfold binSem
          rw [hg]
          simp [binOp, Op.intDiv, hy]
        · trivial
      · intro K hq
        obtain ⟨hy, hk⟩ := hq
        refine ⟨_, fun w => ?_, hk⟩
        unfold binSem
        rw [hg]
        simp [binOp, Op.shift, Int.not_lt.2 hy]
      · intro K hq
        obtain ⟨hy, hk⟩ := hq
        refine ⟨_, fun w => ?_, hk⟩
        unfold binSem
        rw [hg]
        simp [binOp, Op.shift, Int.not_lt.2 hy]
      · trivial
    · rename_i p q _
      have hg : eqGuard op t x y (.bool p) (.bool q) = pure () := eqGuard_other (by simp) (by simp)
      split
      · rename_i hu _
        intro w
        unfold binSem
        rw [hg]
        simp only [Sem.run_bind, Sem.run_pure, Result.andThen_ok, binOp, equal_bool hu]
      · rename_i hu _
        intro w
        unfold binSem
        rw [hg]
        simp only [Sem.run_bind, Sem.run_pure, Result.andThen_ok, binOp, equal_bool hu]
      · trivial
    · exact meets_nil op t x y _ _

theorem meets_bin (op : BinOp) (t : TypeId) (x y : Operand) (a b : Value) : MeetsS P (binSem op t x y a b) (doesBin P op t x y a b) := by
  unfold doesBin
  split
  · exact fun K ⟨r, hr, hk⟩ => ⟨_, hr, hk⟩
  · exact fun K ⟨r, hr, hk⟩ => ⟨_, hr, hk⟩
  · exact meets_bin0 _ t x y a b

theorem invoke_yield (l : Nat) (captured args : Array Value) : invoke (.fn (.yield l) captured) args = Instr.yield l args := rfl
theorem invoke_func (f : FuncId) (captured args : Array Value) : invoke (.fn (.func f) captured) args = callFunc f (args ++ captured) := rfl

set_option maxHeartbeats 2000000 in
theorem does_meets (ρ : Operand → Value) (o : Oper) : Meets P ρ o (does P ρ o) := by
  obtain ⟨dst, op, type, pos, after, guard⟩ := o
  cases op with
  | move x => intro w; simp [execOp, mapA_eq]
  | assign x => intro w; simp [execOp, mapA_eq]
  | pick c a b =>
    simp only [does]
    split
    · rename_i h; intro w; simp [execOp, h, asBool]
    · rename_i h; intro w; simp [execOp, h, asBool]
    · trivial
  | alloc e => exact meets_of (fun w => by simp only [execOp]; rw [Sem.run_bind]; rfl) (meets_alloc e)
  | box e x => exact meets_of (fun w => by simp only [execOp]; rw [Sem.run_bind]; rfl) (meets_box e _)
  | build t ps => exact meets_of (s := Instr.build t (mapA (fun (i, x) => (i, ρ x)) ps)) (fun w => by rw [mapA_eq]; simp only [execOp]; rw [Sem.run_bind]; rfl) (fun K ⟨cs, hr, hk⟩ => ⟨_, hr, hk⟩)
  | buildSlice t n ps =>
    refine meets_of (s := Instr.buildSlice t n ⟨ps.toList.map fun (i, x) => (i, ρ x)⟩) (fun w => ?_) (meets_buildSlice t n _)
    have : (⟨ps.toList.map fun (i, x) => (i, ρ x)⟩ : Array (Nat × Value)) = ps.map fun (i, x) => (i, ρ x) := mapA_eq _ _
    rw [this]
    simp only [execOp]; rw [Sem.run_bind]; rfl
  | insert t m k x => intro w; simp [execOp, mapA_eq]
  | load t a => exact meets_of (fun w => by simp only [execOp]; rw [Sem.run_bind]; rfl) (meets_load t _)
  | store t a x => exact meets_ofU (fun w => by simp only [execOp]; rw [Sem.run_bind]; rfl) (meets_store t _ _)
  | ready g => trivial
  | waits g => trivial
  | nilCheck x =>
    simp only [does, doesNilCheck]
    split
    · rename_i p h
      intro K hq
      obtain ⟨a, rfl, hk⟩ := hq
      exact ⟨_, fun w => by simp [execOp, h], hk⟩
    · rename_i h; intro w; simp [execOp, h]
    · rename_i v h1 h2
      intro K hq
      obtain ⟨⟨f, first, captured, hv⟩ | ⟨l, hv⟩, hk⟩ := hq
      · exact ⟨_, fun w => by simp [execOp, hv], hv ▸ hk⟩
      · exact ⟨_, fun w => by simp [execOp, hv], hv ▸ hk⟩
  | binOp op t x y u => exact meets_of (fun w => by simp only [execOp]; rw [Sem.run_bind]; rfl) (meets_bin op t x y _ _)
  | unOp op t x =>
    simp only [does]
    split
    · rename_i v h; intro w
      simp only [execOp]
      rw [Sem.run_bind, pureUn_run h w]; rfl
    · trivial
  | convert src dst x =>
    simp only [does]
    split
    · rename_i v h; intro w
      simp only [execOp]
      rw [Sem.run_bind, pureConv_run h w]; rfl
    · intro w; simp [execOp, mapA_eq]
  | sliceToArrayPointer t x => trivial
  | makeInterface t x => intro w; simp [execOp, mapA_eq]
  | makeFunc fn a b => intro w; simp [execOp, Instr.makeFunc, mapA_eq]
  | makeMap t r => intro w; simp [execOp, mapA_eq]
  | makeChan t x => trivial
  | makeSlice t l c => intro w; simp [execOp, mapA_eq]
  | slice t x l h m => exact meets_of (fun w => by simp only [execOp]; rw [Sem.run_bind]; rfl) (meets_slice t _ _ _ _)
  | fieldAddr s x f => exact meets_of (fun w => by simp only [execOp]; rw [Sem.run_bind]; rfl) (meets_fieldAddr s _ f)
  | field t x f => exact meets_of (fun w => by simp only [execOp]; rw [Sem.run_bind]; rfl) (meets_field t _ f)
  | indexAddr t x i => exact meets_of (fun w => by simp only [execOp]; rw [Sem.run_bind]; rfl) (meets_indexAddr t _ _)
  | index t x i => exact meets_of (fun w => by simp only [execOp]; rw [Sem.run_bind]; rfl) (meets_index t _ _)
  | lookup t x i ok => intro w; simp [execOp, mapA_eq]
  | mapUpdate t m k x => intro w; simp [execOp, mapA_eq]
  | mapEntry t m k => intro w; simp [execOp, mapA_eq]
  | entryStore t m s x => intro w; simp [execOp, mapA_eq]
  | range t x => intro w; simp [execOp, mapA_eq]
  | next it b => intro w; simp [execOp, mapA_eq]
  | entry it => intro w; simp [execOp, mapA_eq]
  | typeAssert x t u b => intro w; simp [execOp, mapA_eq]
  | extract t i =>
    simp only [does]
    split
    · rename_i vs hv
      split
      · rename_i v hi; intro w; simp [execOp, hv, Instr.extract, hi]
      · trivial
    · trivial
  | call c =>
    obtain ⟨callee, args, argTypes⟩ := c
    cases callee with
    | value f =>
      simp only [does]
      split
      · split
        · rename_i g first captured hf
          split
          · intro h K hq w hw
            obtain ⟨v, w', h1, h2, h3⟩ := hq w hw
            refine ⟨_, w', ?_, h2, h3⟩
            simp only [mapA_eq, appA_eq, Array.append_assoc] at h1
            simp [execOp, resolve, hf, Deferred.ofValue, invoke_func, h1]
          · intro w
            simp [execOp, resolve, hf, Deferred.ofValue, invoke_func, mapA_eq, appA_eq]
        · rename_i v hv
          refine ⟨fun g first captured hg w => ?_, fun l hg w => ?_⟩
          · simp [execOp, resolve, hg, Deferred.ofValue, invoke_func, mapA_eq, appA_eq]
          · simp [execOp, resolve, hg, Deferred.ofValue, invoke_yield, mapA_eq, appA_eq]
      · refine ⟨fun g first captured hg w => ?_, fun l hg w => ?_⟩
        · simp [execOp, resolve, hg, Deferred.ofValue, invoke_func, mapA_eq, appA_eq]
        · simp [execOp, resolve, hg, Deferred.ofValue, invoke_yield, mapA_eq, appA_eq]
    | invoke r m => trivial
    | builtin b =>
      cases b
      case len =>
        refine meets_of (fun w => ?_) (meetsS_orQuiet fun v hv w => pureLen_run hv w)
        simp [execOp, resolve, invoke, builtin, mapA_eq]
      case cap =>
        refine meets_of (fun w => ?_) (meetsS_orQuiet fun v hv w => pureCap_run hv w)
        simp [execOp, resolve, invoke, builtin, mapA_eq]
      case min =>
        simp only [does]
        split
        · rename_i k x r hx
          split
          · rename_i m hm
            intro w
            have hx' : List.map ρ args.toList = Value.int k x :: r := by simpa [mapA_eq] using hx
            simp [execOp, resolve, invoke, builtin, Builtin.min_, hx', minInts_run r x m hm w]
          · trivial
        · trivial
      case max =>
        simp only [does]
        split
        · rename_i k x r hx
          split
          · rename_i m hm
            intro w
            have hx' : List.map ρ args.toList = Value.int k x :: r := by simpa [mapA_eq] using hx
            simp [execOp, resolve, invoke, builtin, Builtin.max_, hx', maxInts_run r x m hm w]
          · trivial
        · trivial
      all_goals first
        | trivial
        | (intro w; simp [execOp, resolve, invoke, builtin, mapA_eq])
  | go c => trivial
  | defer c => trivial
  | panic x => trivial
  | send c x => trivial
  | recv t c b => trivial
  | select cs b => trivial

end

/-! ### The frame, as far as it is known -/

/-- A slot's value; if it is known to be true or false: that. -/
structure EV where
  v : Value
  f : Option Bool

abbrev Env := List (Nat × EV)

def Env.get : Env → Nat → Option EV
  | [], _ => none
  | (s, e) :: r, t => match Nat.beq s t with
    | true => some e
    | false => Env.get r t

def Env.eval (env : Env) : Operand → Value
  | .tmp t => match env.get t with
    | some e => e.v
    | none => undef
  | .const v => v
  | .global g => .pointer (some ⟨g, 0, none⟩)
  | .func f => .func (.func f) #[] #[]

def Env.knows (env : Env) : Operand → Bool
  | .tmp t => (env.get t).isSome
  | _ => true

def Env.flag (env : Env) : Operand → Option Bool
  | .tmp t => match env.get t with
    | some e => e.f
    | none => none
  | .const (.bool b) => some b
  | _ => none

def flagOf (env : Env) (o : Oper) : Option Bool :=
  match o.op with
  | .move x | .assign x => env.flag x
  | .pick c a b => match env.flag c with
    | some true => env.flag a
    | some false => env.flag b
    | none => none
  | .unOp .not _ x => match env.flag x with
    | some b => some (!b)
    | none => none
  | _ => none

def Env.put (env : Env) (dst : Option Tmp) (v : Value) (f : Option Bool) : Env :=
  match dst with
  | some d => (d, ⟨v, f⟩) :: env
  | none => env

def Env.mark (env : Env) (t : Nat) (b : Bool) : Env := (t, ⟨.bool b, some b⟩) :: env

def dstOk (n : Nat) (dst : Option Tmp) : Bool :=
  match dst with
  | some d => Nat.blt d n
  | none => true

inductive Guard where
  | go | skip | bad
  | ask (t : Nat) (c want : Bool)

def guardOf (ops : Array Oper) (env : Env) (o : Oper) : Guard :=
  match o.guard with
  | none => .go
  | some (j, want) => match (ops[j]?).bind (·.dst) with
    | none => .skip
    | some t => match env.get t with
      | none => .bad
      | some e => match e.f with
        | some b => match b, want with
          | true, true | false, false => .go
          | _, _ => .skip
        | none => match e.v with
          | .bool c => .ask t c want
          | _ => .skip

def Env.knowsAll (env : Env) : List Operand → Bool
  | [] => true
  | x :: r => match env.knows x with
    | true => Env.knowsAll env r
    | false => false

def Env.knowsOpt (env : Env) : Option Operand → Bool
  | none => true
  | some x => env.knows x

/-- Are all operands' values known? -/
def knowsOp (env : Env) : Op → Bool
  | .alloc _ | .ready _ | .waits _ => true
  | .move x | .assign x | .box _ x | .load _ x | .nilCheck x | .unOp _ _ x | .convert _ _ x | .sliceToArrayPointer _ x | .makeInterface _ x
  | .makeChan _ x | .fieldAddr _ x _ | .field _ x _ | .range _ x | .next x _ | .entry x | .typeAssert x _ _ _ | .extract x _ | .panic x | .recv _ x _ => env.knows x
  | .pick c a b => env.knowsAll [c, a, b]
  | .build _ ps | .buildSlice _ _ ps => env.knowsAll (ps.toList.map (·.2))
  | .store _ a v | .binOp _ _ a v _ | .makeSlice _ a v | .indexAddr _ a v | .index _ a v | .lookup _ a v _ | .mapEntry _ a v | .send a v => env.knowsAll [a, v]
  | .makeFunc _ first captured => env.knowsAll first.toList && env.knowsAll captured.toList
  | .makeMap _ r => env.knowsOpt r
  | .slice _ x l h m => env.knows x && env.knowsOpt l && env.knowsOpt h && env.knowsOpt m
  | .mapUpdate _ m k v | .entryStore _ m k v | .insert _ m k v => env.knowsAll [m, k, v]
  | .call c => (match c.callee with
    | .value f => env.knows f
    | .invoke r _ => env.knows r
    | .builtin _ => true) && env.knowsAll c.args.toList
  | _ => false

/-- One operation. -/
def evOp (P : Program) (n : Nat) (env : Env) (o : Oper) (K : Env → Heap → Prop) (h : Heap) : Prop :=
  match knowsOp env o.op && dstOk n o.dst with
  | true => match does P env.eval o with
    | .pure v => K (env.put o.dst v (flagOf env o)) h
    | .localP q => q fun v => K (env.put o.dst v none) h
    | .quietP q => q h fun v => K (env.put o.dst v none) h
    | .effP q => q h fun v h' => K (env.put o.dst v none) h'
    | .unitP q => q h fun h' => K (env.put o.dst undef none) h'
    | .quiet s => quietK P (kindOf P o.type) s (fun x => K (env.put o.dst ((kindOf P o.type).inj x) none) h) h
    | .eff s => opK P (kindOf P o.type) s (fun x h' => K (env.put o.dst ((kindOf P o.type).inj x) none) h') h
    | .unit s => unitK P s (fun h' => K (env.put o.dst undef none) h') h
    | .call f args => callK P (kindOf P o.type) f args (fun x h' => K (env.put o.dst ((kindOf P o.type).inj x) none) h') h
    | .callV f args => callV P (kindOf P o.type) f args (fun x h' => K (env.put o.dst ((kindOf P o.type).inj x) none) h') h
    | .bad => False
  | false => False

def evSkip (n : Nat) (env : Env) (o : Oper) (K : Env → Prop) : Prop :=
  match dstOk n o.dst with
  | true => K (env.put o.dst undef none)
  | false => False

/-- A region, in the order of the text. -/
def evOps (P : Program) (n : Nat) (ops : Array Oper) : List Oper → Env → (Env → Heap → Prop) → Heap → Prop
  | [], env, K, h => K env h
  | o :: rest, env, K, h =>
    match guardOf ops env o with
    | .go => evOp P n env o (fun env' h' => evOps P n ops rest env' K h') h
    | .skip => evSkip n env o (fun env' => evOps P n ops rest env' K h)
    | .bad => False
    | .ask t c true => if c = true then evOp P n (env.mark t true) o (fun env' h' => evOps P n ops rest env' K h') h else evSkip n (env.mark t false) o (fun env' => evOps P n ops rest env' K h)
    | .ask t c false => if c = true then evSkip n (env.mark t true) o (fun env' => evOps P n ops rest env' K h) else evOp P n (env.mark t false) o (fun env' h' => evOps P n ops rest env' K h') h

/-! ### Soundness -/

def Env.ok (env : Env) (tmps : Array Value) : Prop := ∀ t e, env.get t = some e → tmps[t]? = some e.v ∧ ∀ b, e.f = some b → e.v = .bool b

structure At (n : Nat) (ds : List Deferred) (env : Env) (w0 : World) (a : Act) (w : World) (h : Heap) : Prop where
  size : a.tmps.size = n
  ok : env.ok a.tmps
  defers : a.defers = ds
  heap : w.heap = h
  same : Same w0 w

variable {ds : List Deferred}

def Kept (S : List Nat) (a a' : Act) : Prop := ∀ t, t ∉ S → a'.tmps[t]? = a.tmps[t]?

theorem Kept.refl (S : List Nat) (a : Act) : Kept S a a := fun _ _ => rfl
theorem Kept.trans {S T : List Nat} {a b c : Act} (h : Kept S a b) (k : Kept T b c) : Kept (S ++ T) a c :=
  fun t ht => (k t (fun x => ht (List.mem_append_right _ x))).trans (h t (fun x => ht (List.mem_append_left _ x)))
theorem Kept.mono {S T : List Nat} {a b : Act} (h : Kept S a b) (hs : ∀ t ∈ S, t ∈ T) : Kept T a b := fun t ht => h t (fun x => ht (hs t x))

theorem Env.get_cons (s t : Nat) (e : EV) (r : Env) : Env.get ((s, e) :: r) t = if s = t then some e else Env.get r t := by
  simp only [Env.get]
  by_cases h : s = t
  · subst h; simp
  · cases hb : Nat.beq s t with
    | true => exact absurd (Nat.eq_of_beq_eq_true hb) h
    | false => simp [h]

theorem Env.eval_ok {env : Env} {a : Act} (ok : env.ok a.tmps) {x : Operand} (hk : env.knows x = true) : a.eval x = env.eval x := by
  cases x with
  | tmp t =>
    simp only [Env.knows] at hk
    cases hg : env.get t with
    | none => rw [hg] at hk; cases hk
    | some e => simp [Act.eval, Env.eval, hg, (ok t e hg).1]
  | _ => rfl

theorem Env.flag_ok {env : Env} {tmps : Array Value} (ok : env.ok tmps) {x : Operand} {b : Bool} (h : env.flag x = some b) : env.eval x = .bool b := by
  cases x with
  | tmp t =>
    simp only [Env.flag] at h
    simp only [Env.eval]
    cases hg : env.get t with
    | none => rw [hg] at h; cases h
    | some e => rw [hg] at h; exact (ok t e hg).2 b h
  | const v =>
    cases v <;> simp [Env.flag] at h
    subst h; rfl
  | _ => simp [Env.flag] at h

theorem knowsAll_spec {env : Env} : ∀ {l : List Operand}, env.knowsAll l = true → ∀ x ∈ l, env.knows x = true
  | [], _, x, hx => by cases hx
  | y :: l, h, x, hx => by
    simp only [Env.knowsAll] at h
    split at h
    · rename_i hy
      rcases List.mem_cons.1 hx with rfl | hx
      · exact hy
      · exact knowsAll_spec h x hx
    · cases h

theorem knowsOpt_spec {env : Env} {o : Option Operand} (h : env.knowsOpt o = true) (x : Operand) (hx : x ∈ o.toArray) : env.knows x = true := by
  cases o with
  | none => simp at hx
  | some y => simp at hx; subst hx; exact h

theorem knowsOp_spec {env : Env} {op : Op} (h : knowsOp env op = true) (x : Operand) (hx : x ∈ op.operands) : env.knows x = true := by
  cases op <;> simp only [knowsOp, Bool.and_eq_true, Bool.false_eq_true] at h <;> simp only [Op.operands] at hx
  case call c =>
    obtain ⟨callee, args, ts⟩ := c
    simp only [Call.operands] at hx
    cases callee <;> simp at hx h
    · rcases hx with rfl | hx
      · exact h.1
      · exact knowsAll_spec h.2 x (by simpa using hx)
    · rcases hx with rfl | hx
      · exact h.1
      · exact knowsAll_spec h.2 x (by simpa using hx)
    · exact knowsAll_spec h x (by simpa using hx)
  case makeFunc fn a b =>
    rcases Array.mem_append.1 hx with hx | hx
    · exact knowsAll_spec h.1 x (by simpa using hx)
    · exact knowsAll_spec h.2 x (by simpa using hx)
  case makeMap t r => exact knowsOpt_spec h x hx
  case slice t y l hi m =>
    simp only [Array.mem_append] at hx
    rcases hx with ((hx | hx) | hx) | hx
    · simp at hx; subst hx; exact h.1.1.1
    · exact knowsOpt_spec h.1.1.2 x hx
    · exact knowsOpt_spec h.1.2 x hx
    · exact knowsOpt_spec h.2 x hx
  all_goals first
    | (exact knowsAll_spec h x (by simpa using hx))
    | (simp at hx; subst hx; exact h)
    | (simp at hx; done)

theorem flagOf_ok {P : Program} {env : Env} {tmps : Array Value} (ok : env.ok tmps) {o : Oper} {v : Value} {b : Bool} (hd : does P env.eval o = .pure v) (h : flagOf env o = some b) : v = .bool b := by
  obtain ⟨dst, op, type, pos, after, guard⟩ := o
  cases op <;> simp only [flagOf] at h <;> try (cases h; done)
  case move x => simp only [does] at hd; injection hd with hd; rw [← hd]; exact Env.flag_ok ok h
  case assign x => simp only [does] at hd; injection hd with hd; rw [← hd]; exact Env.flag_ok ok h
  case pick c x y =>
    simp only [does] at hd
    split at h
    · rename_i hc; rw [Env.flag_ok ok hc] at hd; injection hd with hd; rw [← hd]; exact Env.flag_ok ok h
    · rename_i hc; rw [Env.flag_ok ok hc] at hd; injection hd with hd; rw [← hd]; exact Env.flag_ok ok h
    · cases h
  case unOp op t x =>
    cases op <;> simp only [] at h <;> try (cases h; done)
    split at h
    · rename_i c hc
      simp only [does, Env.flag_ok ok hc, pureUn] at hd
      injection hd with hd; injection h with h; rw [← hd, ← h]
    · cases h

theorem Act.put_get (a : Act) (d : Nat) (v : Value) (t : Nat) (hd : d < a.tmps.size) : (a.put (some d) v).tmps[t]? = if d = t then some v else a.tmps[t]? := by
  simp only [Act.put, Array.getElem?_setIfInBounds]
  split
  · simp
  · rfl

theorem At.put {n : Nat} {env : Env} {w0 : World} {a : Act} {w w' : World} {h h' : Heap} (at_ : At n ds env w0 a w h) {dst : Option Tmp} (hd : dstOk n dst = true) {v : Value} {f : Option Bool}
    (hf : ∀ b, f = some b → v = .bool b) (hh : w'.heap = h') (hs : Same w w') : At n ds (env.put dst v f) w0 (a.put dst v) w' h' := by
  cases dst with
  | none => exact ⟨at_.size, at_.ok, at_.defers, hh, at_.same.trans hs⟩
  | some d =>
    have hlt : d < a.tmps.size := by rw [at_.size]; simpa [dstOk] using hd
    refine ⟨by simp [Act.put, at_.size], fun t e he => ?_, at_.defers, hh, at_.same.trans hs⟩
    rw [Act.put_get _ _ _ _ hlt]
    simp only [Env.put, Env.get_cons] at he
    split at he
    · rename_i hdt; subst hdt
      injection he with he; subst he
      simp only [if_true]
      exact ⟨trivial, hf⟩
    · rename_i hdt
      simp only [hdt, if_false]
      exact at_.ok t e he

theorem Kept.put (a : Act) (dst : Option Tmp) (v : Value) : Kept dst.toList a (a.put dst v) := by
  cases dst with
  | none => exact Kept.refl _ _
  | some d =>
    intro t ht
    have : d ≠ t := fun e => ht (by simp [e])
    simp [Act.put, this]

theorem At.mark {n : Nat} {env : Env} {w0 : World} {a : Act} {w : World} {h : Heap} (at_ : At n ds env w0 a w h) {t : Nat} {b : Bool} (ht : a.tmps[t]? = some (.bool b)) : At n ds (env.mark t b) w0 a w h := by
  refine ⟨at_.size, fun s e he => ?_, at_.defers, at_.heap, at_.same⟩
  simp only [Env.mark, Env.get_cons] at he
  split at he
  · rename_i hst; subst hst
    injection he with he; subst he
    exact ⟨ht, fun c hc => by injection hc with hc; subst hc; rfl⟩
  · exact at_.ok s e he

section
variable {P : Program}

theorem does_noSelect {ρ : Operand → Value} {o : Oper} (h : ∀ d, does P ρ o = d → d ≠ .bad) (cs : Array SelectCase) (b : Bool) : o.op ≠ .select cs b := by
  intro e
  refine h _ rfl ?_
  simp [does, e]

theorem does_noDefer {ρ : Operand → Value} {o : Oper} (h : ∀ d, does P ρ o = d → d ≠ .bad) (c : Call) : o.op ≠ .defer c := by
  intro e
  refine h _ rfl ?_
  simp [does, e]

theorem wpIn_of_run {rr : Option Nat} {o : Oper} {a : Act} {w : World} {next : Act → World → Prop} {Q : Exit → Act → World → Prop} (hd : ∀ c, o.op ≠ .defer c) (h : o.uponIn (FW rr) 0 P a next Q ((execOp a.eval o).run P w)) : o.wpIn (FW rr) 0 P a w next Q :=
  ⟨fun _ _ => trivial, by rw [Oper.semAt_eq _ _ _ hd]; exact h⟩

theorem callsIn_of {rr : Option Nat} {n : Nat} {f : FuncId} {args : Array Value} {w : World} {R : Ending → World → Prop} (h : Calls P f args w R) : CallsIn (FW rr) n P f args w R :=
  (callsIn_wide (n := n)).2 h

theorem room_FW (rr : Option Nat) (n : Nat) : (FW rr).room n := fun _ h => by simp [Fence.wide] at h

theorem roundIn_of {rr : Option Nat} {n l : Nat} {f : FuncId} {tmps : Array Value} {assign body : Code} {w : World} {R : Ending → World → Prop} (h : RoundIn (FW none) 0 P l f tmps assign body w R) : RoundIn (FW rr) n P l f tmps assign body w R :=
  ⟨trivial, fun c cs _ => h.2 c cs (room_FW none _)⟩

/-- One operation's soundness. -/
theorem evOp_sound {n : Nat} {env : Env} {o : Oper} {K : Env → Heap → Prop} {h : Heap} {w0 : World} {a : Act} {w : World} {rr : Option Nat} {next : Act → World → Prop} {Q : Exit → Act → World → Prop}
    (H : evOp P n env o K h) (at_ : At n ds env w0 a w h)
    (hK : ∀ env' a' w' h', K env' h' → At n ds env' w0 a' w' h' → Kept o.dst.toList a a' → next a' w') : o.wpIn (FW rr) 0 P a w next Q := by
  unfold evOp at H
  split at H
  case h_2 => exact H.elim
  case h_1 hck =>
    rw [Bool.and_eq_true] at hck
    obtain ⟨hkn, hd⟩ := hck
    have hkn' : ∀ x ∈ o.op.operands, env.knows x = true := by
      intro x hx
      exact knowsOp_spec hkn x hx
    have hm := does_meets (P := P) env.eval o
    have hex : does P env.eval o ≠ .bad → execOp a.eval o = execOp env.eval o := fun hb =>
      execOp_congr o (does_noSelect (P := P) (ρ := env.eval) (fun d hd => hd ▸ hb)) (fun x hx => Env.eval_ok at_.ok (hkn' x hx))
    have hnd : does P env.eval o ≠ .bad → ∀ c, o.op ≠ .defer c := fun hb => does_noDefer (P := P) (ρ := env.eval) (fun d hd => hd ▸ hb)
    refine wpIn_of_run (fun c => hnd (fun hb => by rw [hb] at H; exact H) c) ?_
    cases hdo : does P env.eval o with
    | pure v =>
      rw [hdo] at H hm
      rw [hex (by simp [hdo]), hm w]
      exact hK _ _ _ _ H (at_.put hd (fun b hb => flagOf_ok at_.ok hdo hb) at_.heap (Same.refl w)) (Kept.put _ _ _)
    | localP q =>
      rw [hdo] at H hm
      obtain ⟨v, hv, hk⟩ := hm _ H
      rw [hex (by simp [hdo]), hv w]
      exact hK _ _ _ _ hk (at_.put hd (fun b hb => by cases hb) at_.heap (Same.refl w)) (Kept.put _ _ _)
    | quietP q =>
      rw [hdo] at H hm
      obtain ⟨v, hv, hk⟩ := hm h _ H
      rw [hex (by simp [hdo]), hv w (by rw [at_.heap]; exact HExt.refl _)]
      exact hK _ _ _ _ hk (at_.put hd (fun b hb => by cases hb) at_.heap (Same.refl w)) (Kept.put _ _ _)
    | effP q =>
      rw [hdo] at H hm
      obtain ⟨v, w', hv, hs, hk⟩ := hm h _ H w at_.heap
      rw [hex (by simp [hdo]), hv]
      exact hK _ _ _ _ hk (at_.put hd (fun b hb => by cases hb) rfl hs) (Kept.put _ _ _)
    | unitP q =>
      rw [hdo] at H hm
      obtain ⟨w', hv, hs, hk⟩ := hm h _ H w at_.heap
      rw [hex (by simp [hdo]), hv]
      exact hK _ _ _ _ hk (at_.put hd (fun b hb => by cases hb) rfl hs) (Kept.put _ _ _)
    | quiet s =>
      rw [hdo] at H hm
      obtain ⟨x, hx, hk⟩ := H
      rw [hex (by simp [hdo]), hm w, hx w at_.heap]
      exact hK _ _ _ _ hk (at_.put hd (fun b hb => by cases hb) at_.heap (Same.refl w)) (Kept.put _ _ _)
    | eff s =>
      rw [hdo] at H hm
      obtain ⟨x, w', hx, hs, hk⟩ := H w at_.heap
      rw [hex (by simp [hdo]), hm w, hx]
      exact hK _ _ _ _ hk (at_.put hd (fun b hb => by cases hb) rfl hs) (Kept.put _ _ _)
    | unit s =>
      rw [hdo] at H hm
      obtain ⟨w', hx, hs, hk⟩ := H w at_.heap
      rw [hex (by simp [hdo]), hm w, hx]
      exact hK _ _ _ _ hk (at_.put hd (fun b hb => by cases hb) rfl hs) (Kept.put _ _ _)
    | call f args =>
      rw [hdo] at H hm
      obtain ⟨h1, h2⟩ := H
      rw [hex (by simp [hdo]), hm w, h1 w]
      refine ⟨fun h => (by cases h), callsIn_of (Calls.mono (h2 w at_.heap) ?_)⟩
      rintro e w' ⟨v, rfl, hs, x, rfl, hk⟩
      exact hK _ _ _ _ hk (at_.put hd (fun b hb => by cases hb) rfl hs) (Kept.put _ _ _)
    | callV fv args =>
      rw [hdo] at H hm
      rcases H with ⟨f, first, captured, hfv, h1, h2⟩ | ⟨l, hfv, H⟩
      · simp only [appA_eq] at h1 h2
        rw [hex (by simp [hdo]), hm.1 f first captured hfv w, h1 w]
        refine ⟨fun h => (by cases h), callsIn_of (Calls.mono (h2 w at_.heap) ?_)⟩
        rintro e w' ⟨v, rfl, hs, x, rfl, hk⟩
        exact hK _ _ _ _ hk (at_.put hd (fun b hb => by cases hb) rfl hs) (Kept.put _ _ _)
      · obtain ⟨f, tmps, assign, body, hy, hr⟩ := H w at_.heap
        rw [hex (by simp [hdo]), hm.2 l hfv w, hy]
        refine ⟨fun h => (by cases h), roundIn_of (RoundIn.mono hr ?_)⟩
        rintro e w' ⟨v, rfl, hs, x, rfl, hk⟩
        exact hK _ _ _ _ hk (at_.put hd (fun b hb => by cases hb) rfl hs) (Kept.put _ _ _)
    | bad => rw [hdo] at H; exact H.elim

def dsts (l : List Oper) : List Nat := l.flatMap (·.dst.toList)

theorem evSkip_sound {n : Nat} {env : Env} {o : Oper} {K : Env → Prop} {h : Heap} {w0 : World} {a : Act} {w : World} (H : evSkip n env o K) (at_ : At n ds env w0 a w h) :
    ∃ env', K env' ∧ At n ds env' w0 (a.put o.dst undef) w h := by
  unfold evSkip at H
  split at H
  · rename_i hd; exact ⟨_, H, at_.put hd (fun b hb => by cases hb) at_.heap (Same.refl w)⟩
  · exact H.elim

theorem guardOf_spec {ops : Array Oper} {env : Env} {o : Oper} {a : Act} (ok : env.ok a.tmps) :
    match guardOf ops env o with
    | .go => Region.wanted o (yielded ops a.tmps) = true
    | .skip => Region.wanted o (yielded ops a.tmps) = false
    | .bad => True
    | .ask t c want => a.tmps[t]? = some (.bool c) ∧ Region.wanted o (yielded ops a.tmps) = (c == want) := by
  unfold guardOf
  cases hg : o.guard with
  | none => simp [Region.wanted, hg]
  | some jw =>
    obtain ⟨j, want⟩ := jw
    simp only []
    cases hj : (ops[j]?).bind (·.dst) with
    | none => simp [Region.wanted, hg, yielded, hj]
    | some t =>
      simp only []
      cases he : env.get t with
      | none => trivial
      | some e =>
        have h1 := (ok t e he).1
        have h2 := (ok t e he).2
        simp only []
        cases hf : e.f with
        | some b =>
          rw [h2 b hf] at h1
          cases b <;> cases want <;> simp [Region.wanted, hg, yielded, hj, h1]
        | none =>
          simp only []
          cases hv : e.v with
          | bool c =>
            rw [hv] at h1
            exact ⟨h1, by simp [Region.wanted, hg, yielded, hj, h1]⟩
          | _ => rw [hv] at h1; simp [Region.wanted, hg, yielded, hj, h1]

theorem evOps_sound {rr : Option Nat} {n : Nat} {ops : Array Oper} {Q : Exit → Act → World → Prop} {w0 : World} : ∀ (l : List Oper) (env : Env) (K : Env → Heap → Prop) (h : Heap) (a : Act) (w : World),
    evOps P n ops l env K h → At n ds env w0 a w h →
    (∀ env' a' w' h', K env' h' → At n ds env' w0 a' w' h' → Kept (dsts l) a a' → Q .normal a' w') → wpListIn (FW rr) 0 P ops Q l a w
  | [], env, K, h, a, w, H, at_, hK => hK _ _ _ _ H at_ (Kept.refl _ _)
  | o :: rest, env, K, h, a, w, H, at_, hK => by
    have hK' : ∀ a1, Kept o.dst.toList a a1 → ∀ env' a' w' h', K env' h' → At n ds env' w0 a' w' h' → Kept (dsts rest) a1 a' → Q .normal a' w' := fun a1 k1 env' a' w' h' hk hat k2 =>
      hK env' a' w' h' hk hat (by simpa [dsts] using k1.trans k2)
    have hgo : ∀ (env1 : Env), At n ds env1 w0 a w h → evOp P n env1 o (fun env' h' => evOps P n ops rest env' K h') h → o.wpIn (FW rr) 0 P a w (wpListIn (FW rr) 0 P ops Q rest) Q := fun env1 at1 H1 =>
      evOp_sound H1 at1 fun env' a' w' h' hk hat k => evOps_sound rest env' K h' a' w' hk hat (hK' a' k)
    have hskip : ∀ (env1 : Env), At n ds env1 w0 a w h → evSkip n env1 o (fun env' => evOps P n ops rest env' K h) → wpListIn (FW rr) 0 P ops Q rest (a.put o.dst undef) w := fun env1 at1 H1 => by
      obtain ⟨env', hk, hat⟩ := evSkip_sound H1 at1
      exact evOps_sound rest env' K h _ w hk hat (hK' _ (Kept.put _ _ _))
    have hg := guardOf_spec (ops := ops) (o := o) at_.ok
    unfold wpListIn
    unfold evOps at H
    cases hgu : guardOf ops env o with
    | go =>
      rw [hgu] at H hg
      rw [if_pos hg]
      exact hgo env at_ H
    | skip =>
      rw [hgu] at H hg
      simp only [] at hg
      rw [if_neg (by simp [hg])]
      exact ⟨fun _ _ => trivial, hskip env at_ H⟩
    | bad => rw [hgu] at H; exact H.elim
    | ask t c want =>
      rw [hgu] at H hg
      obtain ⟨ht, hw⟩ := hg
      cases want <;> cases c <;> simp only [if_true, Bool.false_eq_true, if_false] at H
      · rw [if_pos (by simp [hw])]; exact hgo _ (at_.mark ht) H
      · rw [if_neg (by simp [hw])]; exact ⟨fun _ _ => trivial, hskip _ (at_.mark ht) H⟩
      · rw [if_neg (by simp [hw])]; exact ⟨fun _ _ => trivial, hskip _ (at_.mark ht) H⟩
      · rw [if_pos (by simp [hw])]; exact hgo _ (at_.mark ht) H

end

/-! ### Code -/

/-- In which order a region is gone through. -/
inductive Plan where
  | done
  | loc (i : Nat) (p : Plan)
  | locA (i : Nat) (p q : Plan)
  | last (i : Nat) (p : Plan)
  | lastA (i : Nat) (p q : Plan)
  | alt (i : Nat) (p r : Plan)
  | altA (i : Nat) (p q r : Plan)
  | st (i D : Nat) (p : Plan)   -- read first, whatever comes between; what waits for it

/-- What is said beside a piece of code: where ways meet again, and which slots are read behind that; what a loop changes; how a region that draws its order is read. -/
inductive Ann where
  | leaf
  | seq (a b : Ann)
  | join (vars : List (Nat × Kd)) (a b : Ann)
  | cond (a b : Ann)
  | block (a : Ann)
  | loop (vars : List (Nat × Kd)) (a : Ann)
  | tail (n : Nat)
  | any (p : Plan)

@[reducible] def Tup : List (Nat × Kd) → Type
  | [] => Unit
  | [(_, k)] => k.T
  | (_, k) :: x :: r => k.T × Tup (x :: r)

def Tup.env : (l : List (Nat × Kd)) → Tup l → Env
  | [], _ => []
  | [(t, k)], x => [(t, ⟨k.inj x, none⟩)]
  | (t, k) :: y :: r, x => (t, ⟨k.inj x.1, none⟩) :: Tup.env (y :: r) x.2

def Tup.of : (l : List (Nat × Kd)) → Env → Option (Tup l)
  | [], _ => some ()
  | [(t, k)], env => match env.get t with
    | some e => k.prj e.v
    | none => none
  | (t, k) :: y :: r, env => match env.get t with
    | some e => match k.prj e.v with
      | some x => match Tup.of (y :: r) env with
        | some z => some (x, z)
        | none => none
      | none => none
    | none => none

def Env.without (env : Env) (l : List Nat) : Env :=
  match env with
  | [] => []
  | (t, e) :: r => match l.any (Nat.beq t) with
    | true => Env.without r l
    | false => (t, e) :: Env.without r l

/-- The slots that a piece of code may write. -/
def assigned : Code → List Nat
  | .region _ ops _ => dsts ops.toList
  | .seq a b => assigned a ++ assigned b
  | .cond _ a b => assigned a ++ assigned b
  | .block _ b => assigned b
  | .loop b => assigned b
  | .scope b => assigned b
  | _ => []

/-- Where ways meet: 'rest' is what follows, from the values of the slots that are read there. -/
def joinW {S : Type} (rest : S → Heap → Prop) (body : (S → Heap → Prop) → Prop) : Prop := body rest

/-- A loop: the least predicate that holds of what a round's end makes it hold of. -/
def loopW {S : Type} (F : (S → Heap → Prop) → S → Heap → Prop) (s : S) (h : Heap) : Prop :=
  ∀ X : S → Heap → Prop, (∀ s h, F X s h → X s h) → X s h

theorem joinW_intro {S : Type} {rest : S → Heap → Prop} {body : (S → Heap → Prop) → Prop} (A : S → Heap → Prop) (h1 : ∀ J : S → Heap → Prop, (∀ s h, A s h → J s h) → body J) (h2 : ∀ s h, A s h → rest s h) : joinW rest body := h1 rest h2

theorem loopW_rule {S : Type} {F : (S → Heap → Prop) → S → Heap → Prop} {s : S} {h : Heap} (I : S → Heap → Prop) (μ : S → Nat) (h0 : I s h)
    (round : ∀ (X : S → Heap → Prop) (s : S) (h : Heap), I s h → (∀ s' h', I s' h' → μ s' < μ s → X s' h') → F X s h) : loopW F s h := by
  intro X hX
  have key : ∀ (m : Nat) (s : S) (h : Heap), μ s = m → I s h → X s h := by
    intro m
    induction m using Nat.strongRecOn with
    | _ m ih =>
      intro s h hm hI
      exact hX s h (round X s h hI fun s' h' hI' hlt => ih (μ s') (by omega) s' h' rfl hI')
  exact key _ s h rfl h0

/-! A region that draws its order, if all it does is read. -/

def evOpQ (P : Program) (calls : Bool) (n : Nat) (env : Env) (o : Oper) (K : Env → Prop) (h : Heap) : Prop :=
  match knowsOp env o.op && dstOk n o.dst with
  | true => match does P env.eval o with
    | .pure v => K (env.put o.dst v (flagOf env o))
    | .localP q => q fun v => K (env.put o.dst v none)
    | .quietP q => q h fun v => K (env.put o.dst v none)
    | .quiet s => quietK P (kindOf P o.type) s (fun x => K (env.put o.dst ((kindOf P o.type).inj x) none)) h
    | .call f args => match calls with
      | true => callQ P (kindOf P o.type) f args (fun x => K (env.put o.dst ((kindOf P o.type).inj x) none)) h
      | false => False
    | .callV f args => match calls with
      | true => callVQ P (kindOf P o.type) f args (fun x => K (env.put o.dst ((kindOf P o.type).inj x) none)) h
      | false => False
    | _ => False
  | false => False

def evOpsQ (P : Program) (calls : Bool) (n : Nat) (ops : Array Oper) : List Oper → Env → (Env → Prop) → Heap → Prop
  | [], env, K, _ => K env
  | o :: rest, env, K, h =>
    match guardOf ops env o with
    | .go => evOpQ P calls n env o (fun env' => evOpsQ P calls n ops rest env' K h) h
    | .skip => evSkip n env o (fun env' => evOpsQ P calls n ops rest env' K h)
    | .bad => False
    | .ask t c true => if c = true then evOpQ P calls n (env.mark t true) o (fun env' => evOpsQ P calls n ops rest env' K h) h else evSkip n (env.mark t false) o (fun env' => evOpsQ P calls n ops rest env' K h)
    | .ask t c false => if c = true then evSkip n (env.mark t true) o (fun env' => evOpsQ P calls n ops rest env' K h) else evOpQ P calls n (env.mark t false) o (fun env' => evOpsQ P calls n ops rest env' K h) h

/-! A region that draws its order: the orders, but for what is the same in all of them. -/

def localAt (P : Program) (env : Env) (o : Oper) : Bool :=
  match knowsOp env o.op with
  | true => match does P env.eval o with
    | .pure _ => true
    | .localP _ => true
    | _ => false
  | false => false

def isLocal (P : Program) (ops : Array Oper) (env : Env) (o : Oper) : Bool :=
  match guardOf ops env o with
  | .skip => true
  | .bad => false
  | .go => localAt P env o
  | .ask t _ want => localAt P (env.mark t want) o

/-! A region that draws its order, by a plan that was laid ahead: what comes first does not matter (local steps, reads), or all that can come first is gone through. -/

def Plan.depth : Plan → Nat
  | .done => 0
  | .loc _ p => p.depth + 1
  | .locA _ p q => max p.depth q.depth + 1
  | .st _ _ p => p.depth + 1
  | .last _ p => p.depth + 1
  | .lastA _ p q => max p.depth q.depth + 1
  | .alt _ p r => max (p.depth + 1) r.depth
  | .altA _ p q r => max (max p.depth q.depth + 1) r.depth

def Plan.covers : Plan → Nat → Bool
  | .last j _, i => Nat.beq i j
  | .lastA j _ _, i => Nat.beq i j
  | .alt j _ r, i => Nat.beq i j || r.covers i
  | .altA j _ _ r, i => Nat.beq i j || r.covers i
  | _, _ => false

def allIdx (f : Nat → Oper → Bool) : Nat → List Oper → Bool
  | _, [] => true
  | j, o :: r => match f j o with
    | true => allIdx f (j + 1) r
    | false => false

/-- May operation i come up, once those of m have? -/
def readyB (l : List Oper) (n m i : Nat) : Bool :=
  match l[i]? with
  | some o => !m.testBit i && o.after.toList.all fun e => !Region.binds .any e || (Nat.blt e.on n && m.testBit e.on)
  | none => false

def freeB (ops : Array Oper) (l : List Oper) (m i : Nat) : Bool :=
  match l[i]? with
  | some oi => allIdx (fun j oj => m.testBit j || Nat.beq j i || oj.after.toList.any (fun e => Region.binds .any e && Nat.beq e.on i) || oi.apart ops oj) 0 l
  | none => false

/-- All of D waits for i, at once or behind others of D. -/
def depB (l : List Oper) (m i D : Nat) : Bool :=
  allIdx (fun j oj => !D.testBit j || (!m.testBit j && !Nat.beq j i && oj.after.toList.any (fun e => Region.binds .any e && (Nat.beq e.on i || D.testBit e.on)))) 0 l &&
  Nat.blt D (2 ^ l.length)

def coversAll (l : List Oper) (n m : Nat) (p : Plan) : Bool :=
  allIdx (fun j _ => !readyB l n m j || p.covers j) 0 l

def Plan.ok (ops : Array Oper) (l : List Oper) (n : Nat) : Bool → Plan → Nat → Bool
  | b, .done, m => !b && Nat.beq m (2 ^ n - 1)
  | b, .loc i p, m => !b && (readyB l n m i && freeB ops l m i && Plan.ok ops l n false p (m ||| 2 ^ i))
  | b, .locA i p q, m => !b && (readyB l n m i && freeB ops l m i && Plan.ok ops l n false p (m ||| 2 ^ i) && Plan.ok ops l n false q (m ||| 2 ^ i))
  | b, .st i D p, m => !b && (readyB l n m i && freeB ops l m i && depB l m i D && Plan.ok ops l n false p (m ||| 2 ^ i))
  | b, .last i p, m => (b || coversAll l n m (.last i p)) && readyB l n m i && Plan.ok ops l n false p (m ||| 2 ^ i)
  | b, .lastA i p q, m => (b || coversAll l n m (.lastA i p q)) && readyB l n m i && (Plan.ok ops l n false p (m ||| 2 ^ i) && Plan.ok ops l n false q (m ||| 2 ^ i))
  | b, .alt i p r, m => (b || coversAll l n m (.alt i p r)) && readyB l n m i && (Plan.ok ops l n false p (m ||| 2 ^ i) && Plan.ok ops l n true r m)
  | b, .altA i p q r, m => (b || coversAll l n m (.altA i p q r)) && readyB l n m i && (Plan.ok ops l n false p (m ||| 2 ^ i) && Plan.ok ops l n false q (m ||| 2 ^ i) && Plan.ok ops l n true r m)

def stepOne (P : Program) (n : Nat) (ops : Array Oper) (env : Env) (i : Nat) (K : Env → Heap → Prop) (h : Heap) : Prop :=
  match ops[i]? with
  | none => False
  | some o => match guardOf ops env o with
    | .go => evOp P n env o K h
    | .skip => evSkip n env o (fun env' => K env' h)
    | _ => False

def stepAsk (P : Program) (n : Nat) (ops : Array Oper) (env : Env) (i : Nat) (Kt Kf : Env → Heap → Prop) (h : Heap) : Prop :=
  match ops[i]? with
  | none => False
  | some o => match guardOf ops env o with
    | .ask t c true => if c = true then evOp P n (env.mark t true) o Kt h else evSkip n (env.mark t false) o (fun env' => Kf env' h)
    | .ask t c false => if c = true then evSkip n (env.mark t true) o (fun env' => Kt env' h) else evOp P n (env.mark t false) o Kf h
    | _ => False

/-- What was read first, and what waits for it: it must still read the same. -/
abbrev Chk := List (Nat × (Heap → Prop))

def clearBit (i W : Nat) : Nat :=
  match W.testBit i with
  | true => W ^^^ 2 ^ i
  | false => W

def Chk.clear (i : Nat) : Chk → Chk
  | [] => []
  | (W, c) :: r => (clearBit i W, c) :: Chk.clear i r

def chk : Chk → Nat → Heap → Prop → Prop
  | [], _, _, X => X
  | (W, c) :: r, m, h, X => match Nat.beq (m &&& W) 0 with
    | true => c h ∧ chk r m h X
    | false => chk r m h X

def nsAt (ops : Array Oper) (i : Nat) : Bool :=
  match ops[i]? with
  | some o => nsOp o.op
  | none => true

def chkAt (ops : Array Oper) (i : Nat) (ck : Chk) (m : Nat) (h : Heap) (X : Prop) : Prop :=
  match nsAt ops i with
  | true => X
  | false => chk ck m h X

/-- A read that is taken first, whatever comes between. -/
def stepSt (P : Program) (n : Nat) (ops : Array Oper) (env : Env) (i : Nat) (K : (Heap → Prop) → Env → Prop) (h : Heap) : Prop :=
  match ops[i]? with
  | none => False
  | some o => match guardOf ops env o with
    | .go => match knowsOp env o.op && dstOk n o.dst with
      | true => match does P env.eval o with
        | .quietP q => q h fun v => K (fun h' => q h' fun v' => v' = v) (env.put o.dst v none)
        | _ => False
      | false => False
    | _ => False

def evPlan (P : Program) (n : Nat) (ops : Array Oper) : Plan → Nat → Chk → Env → (Env → Heap → Prop) → Heap → Prop
  | .done, _, _, env, K, h => K env h
  | .loc i p, m, ck, env, K, h => match (match ops[i]? with | some o => isLocal P ops env o | none => false) with
    | true => stepOne P n ops env i (fun env' h' => evPlan P n ops p (m ||| 2 ^ i) (ck.clear i) env' K h') h
    | false => False
  | .locA i p q, m, ck, env, K, h => match (match ops[i]? with | some o => isLocal P ops env o | none => false) with
    | true => stepAsk P n ops env i (fun env' h' => evPlan P n ops p (m ||| 2 ^ i) (ck.clear i) env' K h') (fun env' h' => evPlan P n ops q (m ||| 2 ^ i) (ck.clear i) env' K h') h
    | false => False
  | .st i D p, m, ck, env, K, h => stepSt P n ops env i (fun c env' => evPlan P n ops p (m ||| 2 ^ i) ((D, c) :: ck.clear i) env' K h) h
  | .last i p, m, ck, env, K, h => stepOne P n ops env i (fun env' h' => chkAt ops i ck (m ||| 2 ^ i) h' (evPlan P n ops p (m ||| 2 ^ i) ck env' K h')) h
  | .lastA i p q, m, ck, env, K, h => stepAsk P n ops env i (fun env' h' => chkAt ops i ck (m ||| 2 ^ i) h' (evPlan P n ops p (m ||| 2 ^ i) ck env' K h')) (fun env' h' => chkAt ops i ck (m ||| 2 ^ i) h' (evPlan P n ops q (m ||| 2 ^ i) ck env' K h')) h
  | .alt i p r, m, ck, env, K, h => stepOne P n ops env i (fun env' h' => chkAt ops i ck (m ||| 2 ^ i) h' (evPlan P n ops p (m ||| 2 ^ i) ck env' K h')) h ∧ evPlan P n ops r m ck env K h
  | .altA i p q r, m, ck, env, K, h => stepAsk P n ops env i (fun env' h' => chkAt ops i ck (m ||| 2 ^ i) h' (evPlan P n ops p (m ||| 2 ^ i) ck env' K h')) (fun env' h' => chkAt ops i ck (m ||| 2 ^ i) h' (evPlan P n ops q (m ||| 2 ^ i) ck env' K h')) h ∧ evPlan P n ops r m ck env K h

def withTup (l : List (Nat × Kd)) (env : Env) (K : Tup l → Prop) : Prop :=
  match Tup.of l env with
  | some s => K s
  | none => False

def ev (P : Program) (n : Nat) : Code → Ann → Env → (Exit → Env → Heap → Prop) → Heap → Prop
  | .skip, _, env, K, h => K .normal env h
  | .label _, _, env, K, h => K .normal env h
  | .ret, _, env, K, h => K .ret env h
  | .exit id, _, env, K, h => K (.exit id) env h
  | .region _ ops false, _, env, K, h => evOps P n ops ops.toList env (fun env' h' => K .normal env' h') h
  | .region _ ops true, .leaf, env, K, h =>
    match Region.lexB .any ops with
    | true => evOpsQ P true n ops ops.toList env (fun env' => K .normal env' h) h
    | false => False
  | .region _ ops true, .tail m, env, K, h =>
    match Region.lexTailB .any ops m with
    | true => evOpsQ P false n ops (ops.toList.take m) env (fun env' => evOps P n ops (ops.toList.drop m) env' (fun env'' h' => K .normal env'' h') h) h
    | false => False
  | .region _ ops true, .any p, env, K, h =>
    match Region.noSelect ops && (Nat.ble p.depth ops.size && p.ok ops ops.toList ops.size false 0) with
    | true => evPlan P n ops p 0 [] env (fun env' h' => K .normal env' h') h
    | false => False
  | .seq a b, .seq A B, env, K, h => ev P n a A env (fun e env' h' => match e with
      | .normal => ev P n b B env' K h'
      | e => K e env' h') h
  | .seq a b, .join vars A B, env, K, h =>
    joinW (fun (s : Tup vars) h' => ev P n b B (Tup.env vars s ++ env.without (assigned a)) K h')
      (fun J => ev P n a A env (fun e env' h' => match e with
        | .normal => withTup vars env' (fun s => J s h')
        | e => K e env' h') h)
  | .cond c a b, .cond A B, env, K, h =>
    match env.knows c with
    | true => match env.flag c with
      | some true => ev P n a A env K h
      | some false => ev P n b B env K h
      | none => match env.eval c with
        | .bool c => if c = true then ev P n a A env K h else ev P n b B env K h
        | _ => False
    | false => False
  | .block id a, .block A, env, K, h => ev P n a A env (fun e env' h' => match e with
      | .exit id' => match Nat.beq id' id with
        | true => K .normal env' h'
        | false => K (.exit id') env' h'
      | e => K e env' h') h
  | .loop a, .loop vars A, env, K, h =>
    match Tup.of vars env with
    | some s0 => loopW (fun X s h => ev P n a A (Tup.env vars s ++ env.without (assigned a)) (fun e env' h' => match e with
        | .normal => withTup vars env' (fun s => X s h')
        | e => K e env' h') h) s0 h
    | none => False
  | _, _, _, _, _ => False

section
variable {P : Program}

theorem Env.get_append (A B : Env) (t : Nat) : Env.get (A ++ B) t = match Env.get A t with
    | some e => some e
    | none => Env.get B t := by
  induction A with
  | nil => rfl
  | cons x A ih =>
    obtain ⟨s, e⟩ := x
    rw [List.cons_append, Env.get_cons, Env.get_cons]
    split
    · rfl
    · exact ih

theorem Env.get_without (env : Env) (l : List Nat) (t : Nat) (e : EV) (h : Env.get (env.without l) t = some e) : Env.get env t = some e ∧ t ∉ l := by
  induction env with
  | nil => simp [Env.without, Env.get] at h
  | cons x r ih =>
    obtain ⟨s, e'⟩ := x
    simp only [Env.without] at h
    cases hs : l.any (Nat.beq s) with
    | true =>
      rw [hs] at h
      obtain ⟨h1, h2⟩ := ih h
      rw [Env.get_cons]
      by_cases hst : s = t
      · subst hst
        exfalso
        obtain ⟨y, hy, he⟩ := List.any_eq_true.1 hs
        exact h2 (Nat.eq_of_beq_eq_true he ▸ hy)
      · simp only [hst, if_false]; exact ⟨h1, h2⟩
    | false =>
      rw [hs] at h
      rw [Env.get_cons] at h ⊢
      split at h
      · rename_i hst; subst hst
        simp only [if_true]
        refine ⟨h, fun hm => ?_⟩
        have := List.any_eq_false.1 hs s hm
        simp at this
      · rename_i hst
        simp only [hst, if_false]
        exact ih h

theorem Env.ok_append {A B : Env} {tmps : Array Value} (ha : A.ok tmps) (hb : B.ok tmps) : (A ++ B).ok tmps := by
  intro t e h
  rw [Env.get_append] at h
  split at h
  · rename_i e' he; injection h with h; subst h; exact ha t _ he
  · exact hb t e h

theorem Env.ok_without {env : Env} {l : List Nat} {a a' : Act} (h : env.ok a.tmps) (k : Kept l a a') : (env.without l).ok a'.tmps := by
  intro t e he
  obtain ⟨h1, h2⟩ := Env.get_without env l t e he
  rw [k t h2]
  exact h t e h1

theorem Tup.env_ok : ∀ (l : List (Nat × Kd)) (env : Env) (tmps : Array Value) (s : Tup l), env.ok tmps → Tup.of l env = some s → (Tup.env l s).ok tmps
  | [], _, _, _, _, _ => fun t e h => by simp [Tup.env, Env.get] at h
  | [(t, k)], env, tmps, s, ok, h => by
    intro t' e he
    simp only [Tup.of] at h
    split at h
    · rename_i e' he'
      have hin := Kd.inj_prj k _ _ h
      simp only [Tup.env, Env.get_cons, Env.get] at he
      split at he
      · rename_i htt; subst htt
        injection he with he; subst he
        rw [hin]
        exact ⟨(ok _ _ he').1, fun b hb => by cases hb⟩
      · cases he
    · cases h
  | (t, k) :: y :: r, env, tmps, s, ok, h => by
    intro t' e he
    simp only [Tup.of] at h
    split at h
    · rename_i e' he'
      split at h
      · rename_i x hx
        split at h
        · rename_i z hz
          injection h with h; subst h
          simp only [Tup.env, Env.get_cons] at he
          split at he
          · rename_i htt; subst htt
            injection he with he; subst he
            rw [Kd.inj_prj k _ _ hx]
            exact ⟨(ok _ _ he').1, fun b hb => by cases hb⟩
          · exact Tup.env_ok (y :: r) env tmps z ok hz t' e he
        · cases h
      · cases h
    · cases h

theorem At.tup {n : Nat} {env env' : Env} {w0 : World} {a a' : Act} {w w' : World} {h h' : Heap} {vars : List (Nat × Kd)} {s : Tup vars} {S : List Nat} (at_ : At n ds env w0 a w h)
    (at' : At n ds env' w0 a' w' h') (k : Kept S a a') (hs : Tup.of vars env' = some s) : At n ds (Tup.env vars s ++ env.without S) w0 a' w' h' :=
  ⟨at'.size, Env.ok_append (Tup.env_ok vars env' _ s at'.ok hs) (Env.ok_without at_.ok k), at'.defers, at'.heap, at'.same⟩

structure AtQ (n : Nat) (ds : List Deferred) (env : Env) (a : Act) : Prop where
  size : a.tmps.size = n
  ok : env.ok a.tmps
  defers : a.defers = ds

theorem At.q {n : Nat} {env : Env} {w0 : World} {a : Act} {w : World} {h : Heap} (at_ : At n ds env w0 a w h) : AtQ n ds env a := ⟨at_.size, at_.ok, at_.defers⟩
theorem AtQ.at {n : Nat} {env : Env} {a : Act} (q : AtQ n ds env a) {w0 w : World} {h : Heap} (hw : w.heap = h) (hs : Same w0 w) : At n ds env w0 a w h := ⟨q.size, q.ok, q.defers, hw, hs⟩

theorem AtQ.put {n : Nat} {env : Env} {a : Act} (q : AtQ n ds env a) {dst : Option Tmp} (hd : dstOk n dst = true) {v : Value} {f : Option Bool}
    (hf : ∀ b, f = some b → v = .bool b) : AtQ n ds (env.put dst v f) (a.put dst v) :=
  ((q.at (w := default) (h := (default : World).heap) rfl (Same.refl _)).put hd hf rfl (Same.refl _)).q

theorem AtQ.mark {n : Nat} {env : Env} {a : Act} (q : AtQ n ds env a) {t : Nat} {b : Bool} (ht : a.tmps[t]? = some (.bool b)) : AtQ n ds (env.mark t b) a :=
  ((q.at (w := default) (h := (default : World).heap) rfl (Same.refl _)).mark ht).q

theorem evOpQ_sound {calls : Bool} {n : Nat} {env : Env} {o : Oper} {K : Env → Prop} {h : Heap} {w0 : World} {a : Act} {next : Act → Prop}
    (H : evOpQ P calls n env o K h) (at_ : AtQ n ds env a)
    (hK : ∀ env' a', K env' → AtQ n ds env' a' → Kept o.dst.toList a a' → next a') : o.quiet P a (fun w' => w'.heap = h ∧ Same w0 w') next := by
  unfold evOpQ at H
  split at H
  case h_2 => exact H.elim
  case h_1 hck =>
    rw [Bool.and_eq_true] at hck
    obtain ⟨hkn, hd⟩ := hck
    have hkn' : ∀ x ∈ o.op.operands, env.knows x = true := by
      intro x hx
      exact knowsOp_spec hkn x hx
    have hm := does_meets (P := P) env.eval o
    have hex : does P env.eval o ≠ .bad → execOp a.eval o = execOp env.eval o := fun hb =>
      execOp_congr o (does_noSelect (P := P) (ρ := env.eval) (fun d hd => hd ▸ hb)) (fun x hx => Env.eval_ok at_.ok (hkn' x hx))
    unfold Oper.quiet Oper.quietAt
    cases hdo : does P env.eval o with
    | pure v =>
      rw [hdo] at H hm
      refine ⟨v, fun w hw => ?_, hK _ _ H (at_.put hd (fun b hb => flagOf_ok at_.ok hdo hb)) (Kept.put _ _ _)⟩
      rw [hex (by simp [hdo]), hm w]
      exact ⟨rfl, rfl⟩
    | localP q =>
      rw [hdo] at H hm
      obtain ⟨v, hv, hk⟩ := hm _ H
      refine ⟨v, fun w hw => ?_, hK _ _ hk (at_.put hd (fun b hb => by cases hb)) (Kept.put _ _ _)⟩
      rw [hex (by simp [hdo]), hv w]
      exact ⟨rfl, rfl⟩
    | quietP q =>
      rw [hdo] at H hm
      obtain ⟨v, hv, hk⟩ := hm h _ H
      refine ⟨v, fun w hw => ?_, hK _ _ hk (at_.put hd (fun b hb => by cases hb)) (Kept.put _ _ _)⟩
      rw [hex (by simp [hdo]), hv w (by rw [hw.1]; exact HExt.refl _)]
      exact ⟨rfl, rfl⟩
    | effP q => rw [hdo] at H; exact H.elim
    | unitP q => rw [hdo] at H; exact H.elim
    | quiet s =>
      rw [hdo] at H hm
      obtain ⟨x, hx, hk⟩ := H
      refine ⟨_, fun w hw => ?_, hK _ _ hk (at_.put hd (fun b hb => by cases hb)) (Kept.put _ _ _)⟩
      rw [hex (by simp [hdo]), hm w, hx w hw.1]
      exact ⟨rfl, rfl⟩
    | eff s => rw [hdo] at H; exact H.elim
    | unit s => rw [hdo] at H; exact H.elim
    | call f args =>
      rw [hdo] at H hm
      cases calls with
      | false => exact H.elim
      | true =>
        obtain ⟨x, ⟨h1, h2⟩, hk⟩ := H
        refine ⟨_, fun w hw => ?_, hK _ _ hk (at_.put hd (fun b hb => by cases hb)) (Kept.put _ _ _)⟩
        rw [hex (by simp [hdo]), hm w, h1 w]
        refine ⟨rfl, Calls.mono (h2 w hw.1) ?_⟩
        rintro e w' ⟨v, rfl, hs, rfl, hh⟩
        exact ⟨rfl, hh, hw.2.trans hs⟩
    | callV fv args =>
      rw [hdo] at H hm
      cases calls with
      | false => exact H.elim
      | true =>
        obtain ⟨f, first, captured, hfv, x, ⟨h1, h2⟩, hk⟩ := H
        simp only [appA_eq] at h1 h2
        refine ⟨_, fun w hw => ?_, hK _ _ hk (at_.put hd (fun b hb => by cases hb)) (Kept.put _ _ _)⟩
        rw [hex (by simp [hdo]), hm.1 f first captured hfv w, h1 w]
        refine ⟨rfl, Calls.mono (h2 w hw.1) ?_⟩
        rintro e w' ⟨v, rfl, hs, rfl, hh⟩
        exact ⟨rfl, hh, hw.2.trans hs⟩
    | bad => rw [hdo] at H; exact H.elim

theorem evSkip_soundQ {n : Nat} {env : Env} {o : Oper} {K : Env → Prop} {a : Act} (H : evSkip n env o K) (at_ : AtQ n ds env a) :
    ∃ env', K env' ∧ AtQ n ds env' (a.put o.dst undef) := by
  unfold evSkip at H
  split at H
  · rename_i hd; exact ⟨_, H, at_.put hd (fun b hb => by cases hb)⟩
  · exact H.elim

theorem evOpsQ_sound {calls : Bool} {n : Nat} {ops : Array Oper} {Q : Act → Prop} {w0 : World} : ∀ (l : List Oper) (env : Env) (K : Env → Prop) (h : Heap) (a : Act),
    evOpsQ P calls n ops l env K h → AtQ n ds env a →
    (∀ env' a', K env' → AtQ n ds env' a' → Kept (dsts l) a a' → Q a') → wpQuiet P ops (fun w' => w'.heap = h ∧ Same w0 w') Q l a
  | [], env, K, h, a, H, at_, hK => hK _ _ H at_ (Kept.refl _ _)
  | o :: rest, env, K, h, a, H, at_, hK => by
    have hK' : ∀ a1, Kept o.dst.toList a a1 → ∀ env' a', K env' → AtQ n ds env' a' → Kept (dsts rest) a1 a' → Q a' := fun a1 k1 env' a' hk hat k2 =>
      hK env' a' hk hat (by simpa [dsts] using k1.trans k2)
    have hgo : ∀ (env1 : Env), AtQ n ds env1 a → evOpQ P calls n env1 o (fun env' => evOpsQ P calls n ops rest env' K h) h → o.quiet P a (fun w' => w'.heap = h ∧ Same w0 w') (wpQuiet P ops (fun w' => w'.heap = h ∧ Same w0 w') Q rest) := fun env1 at1 H1 =>
      evOpQ_sound H1 at1 fun env' a' hk hat k => evOpsQ_sound rest env' K h a' hk hat (hK' a' k)
    have hskip : ∀ (env1 : Env), AtQ n ds env1 a → evSkip n env1 o (fun env' => evOpsQ P calls n ops rest env' K h) → wpQuiet P ops (fun w' => w'.heap = h ∧ Same w0 w') Q rest (a.put o.dst undef) := fun env1 at1 H1 => by
      obtain ⟨env', hk, hat⟩ := evSkip_soundQ H1 at1
      exact evOpsQ_sound rest env' K h _ hk hat (hK' _ (Kept.put _ _ _))
    have hg := guardOf_spec (ops := ops) (o := o) at_.ok
    unfold wpQuiet
    unfold evOpsQ at H
    cases hgu : guardOf ops env o with
    | go =>
      rw [hgu] at H hg
      rw [if_pos hg]
      exact hgo env at_ H
    | skip =>
      rw [hgu] at H hg
      simp only [] at hg
      rw [if_neg (by simp [hg])]
      exact hskip env at_ H
    | bad => rw [hgu] at H; exact H.elim
    | ask t c want =>
      rw [hgu] at H hg
      obtain ⟨ht, hw⟩ := hg
      cases want <;> cases c <;> simp only [if_true, Bool.false_eq_true, if_false] at H
      · rw [if_pos (by simp [hw])]; exact hgo _ (at_.mark ht) H
      · rw [if_neg (by simp [hw])]; exact hskip _ (at_.mark ht) H
      · rw [if_neg (by simp [hw])]; exact hskip _ (at_.mark ht) H
      · rw [if_pos (by simp [hw])]; exact hgo _ (at_.mark ht) H

/-- What only reads, in one world: for the head of a region whose last operations follow one another. -/
theorem still_of_quiet {n : Nat} {ops : Array Oper} {Q : Act → Prop} {w : World} : ∀ (l : List Oper) (env : Env) (K : Env → Prop) (a : Act),
    evOpsQ P false n ops l env K w.heap → AtQ n ds env a →
    (∀ env' a', K env' → AtQ n ds env' a' → Kept (dsts l) a a' → Q a') → wpStill P ops w Q l a
  | [], env, K, a, H, at_, hK => hK _ _ H at_ (Kept.refl _ _)
  | o :: rest, env, K, a, H, at_, hK => by
    have hK' : ∀ a1, Kept o.dst.toList a a1 → ∀ env' a', K env' → AtQ n ds env' a' → Kept (dsts rest) a1 a' → Q a' := fun a1 k1 env' a' hk hat k2 =>
      hK env' a' hk hat (by simpa [dsts] using k1.trans k2)
    have hgo : ∀ (env1 : Env), AtQ n ds env1 a → evOpQ P false n env1 o (fun env' => evOpsQ P false n ops rest env' K w.heap) w.heap → o.still P a w (wpStill P ops w Q rest) := fun env1 at1 H1 => by
      unfold evOpQ at H1
      split at H1
      case h_2 => exact H1.elim
      case h_1 hck =>
        rw [Bool.and_eq_true] at hck
        obtain ⟨hkn, hd⟩ := hck
        have hkn' : ∀ x ∈ o.op.operands, env1.knows x = true := by
          intro x hx
          exact knowsOp_spec hkn x hx
        have hm := does_meets (P := P) env1.eval o
        have hex : does P env1.eval o ≠ .bad → execOp a.eval o = execOp env1.eval o := fun hb =>
          execOp_congr o (does_noSelect (P := P) (ρ := env1.eval) (fun d hd => hd ▸ hb)) (fun x hx => Env.eval_ok at1.ok (hkn' x hx))
        unfold Oper.still
        cases hdo : does P env1.eval o with
        | pure v =>
          rw [hdo] at H1 hm
          rw [hex (by simp [hdo]), hm w, Oper.stillUpon_value]
          exact still_of_quiet rest _ K _ H1 (at1.put hd (fun b hb => flagOf_ok at1.ok hdo hb)) (hK' _ (Kept.put _ _ _))
        | localP q =>
          rw [hdo] at H1 hm
          obtain ⟨v, hv, hk⟩ := hm _ H1
          rw [hex (by simp [hdo]), hv w, Oper.stillUpon_value]
          exact still_of_quiet rest _ K _ hk (at1.put hd (fun b hb => by cases hb)) (hK' _ (Kept.put _ _ _))
        | quietP q =>
          rw [hdo] at H1 hm
          obtain ⟨v, hv, hk⟩ := hm _ _ H1
          rw [hex (by simp [hdo]), hv w (HExt.refl _), Oper.stillUpon_value]
          exact still_of_quiet rest _ K _ hk (at1.put hd (fun b hb => by cases hb)) (hK' _ (Kept.put _ _ _))
        | effP q => rw [hdo] at H1; exact H1.elim
        | unitP q => rw [hdo] at H1; exact H1.elim
        | quiet s =>
          rw [hdo] at H1 hm
          obtain ⟨x, hx, hk⟩ := H1
          rw [hex (by simp [hdo]), hm w, hx w rfl, Result.andThen_ok, Oper.stillUpon_value]
          exact still_of_quiet rest _ K _ hk (at1.put hd (fun b hb => by cases hb)) (hK' _ (Kept.put _ _ _))
        | eff s => rw [hdo] at H1; exact H1.elim
        | unit s => rw [hdo] at H1; exact H1.elim
        | call f args => rw [hdo] at H1; exact H1.elim
        | callV fv args => rw [hdo] at H1; exact H1.elim
        | bad => rw [hdo] at H1; exact H1.elim
    have hskip : ∀ (env1 : Env), AtQ n ds env1 a → evSkip n env1 o (fun env' => evOpsQ P false n ops rest env' K w.heap) → wpStill P ops w Q rest (a.put o.dst undef) := fun env1 at1 H1 => by
      obtain ⟨env', hk, hat⟩ := evSkip_soundQ H1 at1
      exact still_of_quiet rest env' K _ hk hat (hK' _ (Kept.put _ _ _))
    have hg := guardOf_spec (ops := ops) (o := o) at_.ok
    unfold wpStill
    unfold evOpsQ at H
    cases hgu : guardOf ops env o with
    | go =>
      rw [hgu] at H hg
      rw [if_pos hg]
      exact hgo env at_ H
    | skip =>
      rw [hgu] at H hg
      simp only [] at hg
      rw [if_neg (by simp [hg])]
      exact hskip env at_ H
    | bad => rw [hgu] at H; exact H.elim
    | ask t c want =>
      rw [hgu] at H hg
      obtain ⟨ht, hw⟩ := hg
      cases want <;> cases c <;> simp only [if_true, Bool.false_eq_true, if_false] at H
      · rw [if_pos (by simp [hw])]; exact hgo _ (at_.mark ht) H
      · rw [if_neg (by simp [hw])]; exact hskip _ (at_.mark ht) H
      · rw [if_neg (by simp [hw])]; exact hskip _ (at_.mark ht) H
      · rw [if_pos (by simp [hw])]; exact hgo _ (at_.mark ht) H

/-- The loop, as it stands behind a round. -/
def LoopIn (rr : Option Nat) (P : Program) (c : Code) (Q : Exit → Act → World → Prop) (a : Act) (w : World) : Prop :=
  ∀ (b : Frame) (k : List Item) (cs : List Frame), b.roundOf = rr → ∃ e a' w', Q e a' w' ∧ ArrivesIn (Machine.fenced P (FW rr)) P (lone (b.atR a (.inLoop c :: k)) cs w) b k cs e a' w'

theorem loopIn_round {rr : Option Nat} {c : Code} {Q : Exit → Act → World → Prop} {a : Act} {w : World} (h : c.wpIn (FW rr) 0 P (Exit.then (LoopIn rr P c Q) Q) a w) : LoopIn rr P c Q a w ∧ (Code.loop c).wpIn (FW rr) 0 P Q a w := by
  have key : ∀ (b : Frame) (k : List Item) (cs : List Frame), b.roundOf = rr → ∃ e a' w', Q e a' w' ∧ ArrivesIn (Machine.fenced P (FW rr)) P (lone (b.atR a (.code c :: .inLoop c :: k)) cs w) b k cs e a' w' := by
    intro b k cs hro
    obtain ⟨e, a₁, w₁, hq, harr⟩ := h b (.inLoop c :: k) cs hro trivial (room_FW rr _)
    cases e with
    | normal =>
      obtain ⟨e₂, a₂, w₂, hq₂, harr₂⟩ := hq b k cs hro
      exact ⟨e₂, a₂, w₂, hq₂, .of_steps harr harr₂⟩
    | exit id => exact ⟨_, a₁, w₁, hq, .pass (x := .inLoop c) rfl (fun _ _ => .inl (by simp)) harr⟩
    | goto l => exact ⟨_, a₁, w₁, hq, .pass (x := .inLoop c) rfl (fun _ _ => .inl (by simp)) harr⟩
    | ret => exact ⟨_, a₁, w₁, hq, .pass (x := .inLoop c) rfl (fun _ _ => .inl (by simp)) harr⟩
    | panic ch => exact ⟨_, a₁, w₁, hq, .pass (x := .inLoop c) rfl (fun _ _ => .inl (by simp)) harr⟩
    | outgrown => exact ⟨_, a₁, w₁, hq, .pass (x := .inLoop c) rfl (fun _ _ => .inl (by simp)) harr⟩
  refine ⟨fun b k cs hro => ?_, fun b k cs hro _ _ => ?_⟩
  · obtain ⟨e, a', w', hq, harr⟩ := key b k cs hro
    exact ⟨e, a', w', hq, .of_steps (.one (fenced_calm (F := FW rr) (n := 0) trivial (room_FW rr _) rfl) stepR_inLoop) harr⟩
  · obtain ⟨e, a', w', hq, harr⟩ := key b k cs hro
    exact ⟨e, a', w', hq, .of_steps (.one (fenced_calm (F := FW rr) (n := 0) trivial (room_FW rr _) rfl) stepR_loop) harr⟩

/-! Regions that draw their order, in a round as elsewhere. -/

theorem noDefer_of_run {o : Oper} {ρ : Operand → Value} {w w' : World} {n : Next} (h : (execOp ρ o).run P w = .ok n w') (hn : ∀ d, n ≠ .defer d) : ∀ c, o.op ≠ .defer c := by
  intro c hc
  unfold execOp at h
  rw [hc] at h
  simp only [Sem.run_bind] at h
  cases hr : (resolve ρ c o.type).run P w with
  | ok d w1 => rw [hr] at h; simp at h; exact hn _ h.1.symm
  | halt x w1 => rw [hr] at h; simp at h

theorem Oper.wpIn_of_quiet {rr : Option Nat} {C : World → Prop} {o : Oper} {a : Act} {K : Act → Prop} {K' : Act → World → Prop} {Q' : Exit → Act → World → Prop} {w : World} (hw : C w) (h : ∀ a w', C w' → K a → K' a w') (hh : o.quiet P a C K) : o.wpIn (FW rr) 0 P a w K' Q' := by
  obtain ⟨v, h1, h2⟩ := hh
  have h3 := h1 w hw
  unfold Oper.quietAt at h3
  cases hrun : (execOp a.eval o).run P w with
  | ok n w' =>
    rw [hrun] at h3
    cases n <;> simp only [Oper.quietUpon] at h3
    case value u =>
      refine wpIn_of_run (noDefer_of_run hrun (by simp)) ?_
      rw [hrun]
      obtain ⟨e1, e2⟩ := h3
      rw [e1, e2]
      exact h _ _ hw h2
    case skip =>
      refine wpIn_of_run (noDefer_of_run hrun (by simp)) ?_
      rw [hrun]
      obtain ⟨e1, e2⟩ := h3
      rw [e1]
      show K' (a.put o.dst undef) w
      rw [← e2]
      exact h _ _ hw h2
    case enter f args =>
      refine wpIn_of_run (noDefer_of_run hrun (by simp)) ?_
      rw [hrun]
      obtain ⟨e1, hc⟩ := h3
      rw [e1]
      exact ⟨fun h => (by cases h), callsIn_of (hc.mono fun e w'' ⟨he, hw''⟩ => by subst he; exact h _ _ hw'' h2)⟩
  | halt x w' => rw [hrun] at h3; simp only [Oper.quietUpon] at h3

theorem wpOpIn_of_qOp {rr : Option Nat} {C : World → Prop} {ops : Array Oper} {i : Nat} {a : Act} {K : Act → Prop} {K' : Act → World → Prop} {Q' : Exit → Act → World → Prop} {w : World} (hC : C w) (h : ∀ a w', C w' → K a → K' a w') (hh : qOp P ops C i K a) : wpOpIn (FW rr) 0 P ops Q' i K' a w := by
  unfold qOp at hh
  unfold wpOpIn
  split
  · rename_i ho; simp only [ho] at hh; exact h _ _ hC hh
  · rename_i o ho
    simp only [ho] at hh
    split
    · rename_i hw; simp only [hw, if_true] at hh; exact Oper.wpIn_of_quiet hC h hh
    · rename_i hw; simp only [hw] at hh; exact ⟨fun _ _ => trivial, h _ _ hC hh⟩

theorem wpAnyIn_of_quiet {rr : Option Nat} {C : World → Prop} {ops : Array Oper} {md : Region.Mode} {Q : Act → Prop} {Q' : Exit → Act → World → Prop} (hQ : ∀ a w, C w → Q a → Q' .normal a w) : ∀ (fuel : Nat) (listed : Array Bool) (a : Act) (w : World), C w →
    wpAnyQ P md ops C Q fuel listed a → wpAnyIn (FW rr) 0 P md ops Q' fuel listed a w
  | 0, _, _, _, hw, h => ⟨h.1, hQ _ _ hw h.2⟩
  | fuel + 1, _, _, _, hw, h => ⟨fun h0 => hQ _ _ hw (h.1 h0), fun i hi => wpOpIn_of_qOp hw (fun a' w' hw' => wpAnyIn_of_quiet hQ fuel _ a' w' hw') (h.2 i hi)⟩

theorem wpIn_region_quiet {rr : Option Nat} {C : World → Prop} {ops : Array Oper} {id : Nat} {Q : Exit → Act → World → Prop} {a : Act} {w : World} (hm : P.follows .mixedOrders = true) (hB : Region.lexB .any ops = true) (hC : C { w with drawn := w.drawn + 1 })
    (h : wpQuiet P ops C (fun a' => ∀ w', C w' → Q .normal a' w') ops.toList a) : (Code.region id ops true).wpIn (FW rr) 0 P Q a w := by
  simp only [Region.lexB, Bool.and_eq_true] at hB
  refine wpIn_region_any hm (wpAnyIn_of_quiet (Q := fun a' => ∀ w', C w' → Q .normal a' w') (fun _ w' hw' h => h w' hw') _ _ _ _ hC ?_)
  have := wpAnyQ_lex (C := C) (md := .any) hB.1 ops.toList 0 (Array.replicate ops.size false) a (by simp) (by simpa using hB.2) h
  simpa using this

theorem Oper.wpIn_of_still {rr : Option Nat} {o : Oper} {a : Act} {w : World} {K : Act → Prop} {K' : Act → World → Prop} {Q' : Exit → Act → World → Prop} (h : ∀ a, K a → K' a w) (hh : o.still P a w K) : o.wpIn (FW rr) 0 P a w K' Q' := by
  unfold Oper.still at hh
  cases hrun : (execOp a.eval o).run P w with
  | ok n w' =>
    rw [hrun] at hh
    cases n <;> simp only [Oper.stillUpon] at hh
    case value u =>
      refine wpIn_of_run (noDefer_of_run hrun (by simp)) ?_
      rw [hrun, hh.1]; exact h _ hh.2
    case skip =>
      refine wpIn_of_run (noDefer_of_run hrun (by simp)) ?_
      rw [hrun, hh.1]; exact h _ hh.2
    case enter f args =>
      refine wpIn_of_run (noDefer_of_run hrun (by simp)) ?_
      rw [hrun]
      obtain ⟨rfl, v, hc, hn⟩ := hh
      exact ⟨fun h => (by cases h), callsIn_of (hc.mono fun e w'' ⟨he, hw⟩ => by subst he; subst hw; exact h _ hn)⟩
  | halt x w' => rw [hrun] at hh; simp only [Oper.stillUpon] at hh

theorem wpOpIn_of_stOp {rr : Option Nat} {ops : Array Oper} {w : World} {i : Nat} {a : Act} {K : Act → Prop} {K' : Act → World → Prop} {Q' : Exit → Act → World → Prop} (h : ∀ a, K a → K' a w) (hh : stOp P ops w i K a) : wpOpIn (FW rr) 0 P ops Q' i K' a w := by
  unfold stOp at hh
  unfold wpOpIn
  split
  · rename_i ho; simp only [ho] at hh; exact h _ hh
  · rename_i o ho
    simp only [ho] at hh
    split
    · rename_i hw; simp only [hw, if_true] at hh; exact Oper.wpIn_of_still h hh
    · rename_i hw; simp only [hw] at hh; exact ⟨fun _ _ => trivial, h _ hh⟩

theorem wpAnyIn_of_head {rr : Option Nat} {ops : Array Oper} {md : Region.Mode} {w : World} {n g : Nat} {L : Array Bool → Act → Prop} {Q' : Exit → Act → World → Prop} (hL : ∀ listed a, L listed a → wpAnyIn (FW rr) 0 P md ops Q' g listed a w) :
    ∀ (f : Nat) (listed : Array Bool) (a : Act), wpAnyL P md ops w n L f listed a → wpAnyIn (FW rr) 0 P md ops Q' (f + g) listed a w
  | 0, listed, a, h => by rw [Nat.zero_add]; exact hL _ _ h
  | f + 1, listed, a, h => by
    rw [show f + 1 + g = (f + g) + 1 by omega]
    exact ⟨fun h0 => absurd h0 h.1, fun i hi => wpOpIn_of_stOp (fun a' h' => wpAnyIn_of_head hL f _ a' h') (h.2 i hi).2⟩

theorem wpAnyIn_of_seq {rr : Option Nat} {ops : Array Oper} {md : Region.Mode} {Q' : Exit → Act → World → Prop} : ∀ (l : List Oper) (k : Nat) (listed : Array Bool) (a : Act) (w : World), (∀ j, l[j]? = ops[k + j]?) →
    Region.seqB md ops l.length k listed = true → wpListIn (FW rr) 0 P ops Q' l a w → wpAnyIn (FW rr) 0 P md ops Q' l.length listed a w
  | [], _, _, _, _, _, hB, h => ⟨by simpa [Region.seqB] using hB, h⟩
  | o :: l, k, listed, a, w, hl, hB, h => by
    have h0 : ops[k]? = some o := by simpa using (hl 0).symm
    simp only [List.length_cons, Region.seqB, Bool.and_eq_true, decide_eq_true_eq] at hB
    refine ⟨fun h1 => (by rw [hB.1] at h1; cases h1), fun i hi => ?_⟩
    rw [hB.1] at hi
    have hik : i = k := by simpa using hi
    subst hik
    have hw : wpOpIn (FW rr) 0 P ops Q' i (wpListIn (FW rr) 0 P ops Q' l) a w := by unfold wpOpIn; simp only [h0]; exact h
    exact wpOpIn_mono (fun a' w' h' => wpAnyIn_of_seq l (i + 1) _ a' w' (fun j => by have := hl (j + 1); simpa [Nat.add_assoc, Nat.add_comm 1 j] using this) hB.2 h') hw

theorem wpIn_region_still_tail {rr : Option Nat} {id : Nat} {Q : Exit → Act → World → Prop} {a : Act} {w : World} {l : List Oper} (n : Nat) (hm : P.follows .mixedOrders = true) (hB : Region.lexTailB .any l.toArray n = true)
    (h : wpStill P l.toArray { w with drawn := w.drawn + 1 } (fun a' => wpListIn (FW rr) 0 P l.toArray Q (l.drop n) a' { w with drawn := w.drawn + 1 }) (l.take n) a) : (Code.region id l.toArray true).wpIn (FW rr) 0 P Q a w := by
  simp only [Region.lexTailB, Bool.and_eq_true, decide_eq_true_eq] at hB
  obtain ⟨⟨⟨⟨hsel, hn⟩, hs⟩, hc⟩, hlex⟩ := hB
  have hn' : n < l.length := by simpa using hn
  have htl : (l.take n).length = n := by simp; omega
  have hdl : (l.drop n).length = l.toArray.size - n := by simp
  have inv0 : HeadInv .any l.toArray n (Array.replicate l.toArray.size false) :=
    ⟨by simp, fun j oj _ hl => (by rw [getD_replicate_false] at hl; cases hl), fun t _ ht => getD_in (by simpa using ht) (getD_replicate_false _ _)⟩
  have H := wpAnyL_lex (md := .any) (g := l.toArray.size - n) hsel hs hc hn (l.take n) 0 _ a (fun j hj => by
    have hj' : j < n := by rw [htl] at hj; exact hj
    simp [hj']) (by simpa using htl) inv0 (by rw [htl]; exact hlex) h
  refine wpIn_region_any hm ?_
  have := wpAnyIn_of_head (rr := rr) (Q' := Q) (g := l.toArray.size - n) (fun listed a' hL => by
    have := wpAnyIn_of_seq (rr := rr) (md := .any) (Q' := Q) (l.drop n) n listed a' { w with drawn := w.drawn + 1 } (fun j => by simp [List.getElem?_drop]) (by rw [hdl]; exact hL.1) hL.2
    rwa [hdl] at this) _ _ _ H
  rw [htl, show n + (l.toArray.size - n) = l.toArray.size by omega] at this
  exact this

end

/-! What only reads can come first. -/

/-- A step that ends in a value, if it ends. -/
def OV (P : Program) (s : Sem Next) : Prop := ∀ (w : World) (n : Next) (w' : World), s.run P w = .ok n w' → ∃ v, n = .value v

theorem OV.of {P : Program} {s : Sem Value} : OV P (do Pure.pure (.value (← s))) := by
  intro w n w' h
  rw [Sem.run_bind] at h
  cases hs : s.run P w with
  | ok v w1 => rw [hs] at h; simp at h; exact ⟨v, h.1.symm⟩
  | halt x w1 => rw [hs] at h; simp at h

theorem OV.pure {P : Program} (v : Value) : OV P (Pure.pure (.value v)) := by
  intro w n w' h
  simp at h
  exact ⟨v, h.1.symm⟩

theorem OV.bind {P : Program} {α : Type} {s : Sem α} {f : α → Sem Next} (hf : ∀ a, OV P (f a)) : OV P (s >>= f) := by
  intro w n w' h
  rw [Sem.run_bind] at h
  cases hs : s.run P w with
  | ok v w1 => rw [hs] at h; exact hf v w1 n w' h
  | halt x w1 => rw [hs] at h; simp at h

theorem OV.halt {P : Program} (x : Halt) : OV P (.halt x) := by
  intro w n w' h
  simp at h

theorem nsOp_value {P : Program} (ρ : Operand → Value) (o : Oper) (h : nsOp o.op = true) : OV P (execOp ρ o) := by
  obtain ⟨dst, op, type, pos, after, guard⟩ := o
  cases op <;> simp only [nsOp, Bool.false_eq_true] at h <;> simp only [Go.execOp]
  case move x => exact OV.pure _
  case assign x => exact OV.pure _
  case pick c a b => refine OV.bind fun _ => ?_; split <;> exact OV.pure _
  case nilCheck x =>
    have rp : ∀ e, OV P (runtimePanic e : Sem Next) := by
      intro e
      unfold Go.runtimePanic
      refine OV.bind fun p => ?_
      cases e <;> first
        | exact OV.halt _
        | exact OV.bind fun _ => OV.bind fun _ => OV.halt _
    split
    · exact rp _
    · exact rp _
    · exact rp _
    · split
      · exact rp _
      · refine OV.bind fun p => OV.bind fun r => ?_
        split
        · exact OV.bind fun _ => OV.pure _
        · exact OV.pure _
      · exact OV.pure _
    · exact OV.pure _
  case call c =>
    obtain ⟨callee, args, ts⟩ := c
    cases callee <;> simp only [Bool.false_eq_true] at h
    rename_i b
    cases b <;> simp only [Bool.false_eq_true] at h <;> exact OV.of
  all_goals exact OV.of

section
variable {P : Program} {ops : Array Oper} {Q : Exit → Act → World → Prop} {rr : Option Nat}

theorem unlisted {listed : Array Bool} {i : Nat} (h : listed.getD i true = false) : listed.getD i false = false := by
  rcases Nat.lt_or_ge i listed.size with h' | h'
  · simp [h'] at h ⊢; exact h
  · simp [Array.getElem?_eq_none h']

/-! Reads that are taken first, whatever comes between. -/

/-- It is a value that this operation yields, in every world that meets S; and it is no deferred call. -/
def YIf (P : Program) (ops : Array Oper) (S : World → Prop) (o : Oper) (v : Value) (a : Act) : Prop :=
  (Region.wanted o (yielded ops a.tmps) = true ∧ (∀ c, o.op ≠ .defer c) ∧ ∀ w, S w → (execOp a.eval o).run P w = .ok (.value v) w) ∨
  (Region.wanted o (yielded ops a.tmps) = false ∧ v = undef)

theorem YIf.of_same {S : World → Prop} {o : Oper} {v : Value} {a a' : Act} (hy : YIf P ops S o v a) (he : execOp a'.eval o = execOp a.eval o)
    (hw : Region.wanted o (yielded ops a'.tmps) = Region.wanted o (yielded ops a.tmps)) : YIf P ops S o v a' := by
  unfold YIf at *
  rw [he, hw]
  exact hy

theorem YIf.wpOpIn {S : World → Prop} {i : Nat} {o : Oper} {v : Value} {a : Act} (hi : ops[i]? = some o) (hy : YIf P ops S o v a)
    {K : Act → World → Prop} {w : World} (hS : S w) (h : K (a.put o.dst v) w) : wpOpIn (FW rr) 0 P ops Q i K a w := by
  unfold Go.wpOpIn
  simp only [hi]
  rcases hy with ⟨hw, hd, hv⟩ | ⟨hw, rfl⟩
  · simp only [hw, if_true]; exact wpIn_of_run hd (by rw [hv w hS]; exact h)
  · simp only [hw, Bool.false_eq_true, if_false]; exact ⟨fun _ _ => trivial, h⟩

theorem wpOpIn_putIf {S : World → Prop} {j : Nat} {oi oj : Oper} {v : Value} (hj : ops[j]? = some oj) (hap : oi.apart ops oj = true)
    (hsi : ∀ cs b, oi.op ≠ .select cs b) (hsj : ∀ cs b, oj.op ≠ .select cs b)
    (hQ : ∀ c a w, Q (.panic c) (a.put oi.dst v) w → Q (.panic c) a w) {K : Act → World → Prop} {a : Act} {w : World}
    (hy : YIf P ops S oi v a) (h : wpOpIn (FW rr) 0 P ops Q j K (a.put oi.dst v) w) :
    wpOpIn (FW rr) 0 P ops Q j (fun a' w' => YIf P ops S oi v a' ∧ K (a'.put oi.dst v) w') a w := by
  obtain ⟨h1, h2, h3⟩ := Oper.apart_spec hap
  have keep : ∀ (a : Act), YIf P ops S oi v a → ∀ u, YIf P ops S oi v (a.put oj.dst u) := fun a hy u =>
    hy.of_same (execOp_put oi hsi a oj.dst u h3) (wanted_put oi a oj.dst u h3)
  have keepD : ∀ d, YIf P ops S oi v { a with defers := d :: a.defers } := fun d => hy.of_same rfl rfl
  unfold wpOpIn at *
  simp only [hj] at *
  rw [wanted_put oj a oi.dst v h1] at h
  split
  · rename_i hw
    simp only [hw, if_true] at h
    unfold Oper.wpIn at *
    refine ⟨fun _ _ => trivial, ?_⟩
    have h := h.2
    have hs : ∀ a : Act, Oper.semAt (FW rr).round (a.put oi.dst v).eval oj = Oper.semAt (FW rr).round a.eval oj := fun a => by
      have h0 := execOp_put oj hsj a oi.dst v h1
      by_cases hd : ∀ c, oj.op ≠ .defer c
      · rw [Oper.semAt_eq _ _ _ hd, Oper.semAt_eq _ _ _ hd, h0]
      · have ⟨c, hc⟩ : ∃ c, oj.op = .defer c := Classical.byContradiction fun hx => hd fun c hc => hx ⟨c, hc⟩
        have hr : ∀ t, resolve (a.put oi.dst v).eval c t = resolve a.eval c t := fun t => resolve_congr c t fun x hx => Act.eval_put fun d hd' hxd => h1 d hd' (by
          subst hxd
          exact List.mem_append_left _ (List.mem_filterMap.2 ⟨.tmp d, by rw [hc]; simpa [Op.operands] using hx, rfl⟩))
        unfold Oper.semAt
        cases hrd : (FW rr).round with
        | none => simp only [h0]
        | some l => simp only [hc, hr]
    rw [hs] at h
    generalize (Oper.semAt (FW rr).round a.eval oj).run P w = r at *
    cases r with
    | ok x w' =>
      cases x <;> simp only [Oper.uponIn] at h ⊢
      case value u => exact ⟨keep a hy u, by rw [← Act.put_comm a v u h2]; exact h⟩
      case skip => exact ⟨keep a hy _, by rw [← Act.put_comm a v undef h2]; exact h⟩
      case defer d =>
        refine ⟨keep _ (keepD d) _, ?_⟩
        rw [← Act.put_comm _ v undef h2, ← Act.put_defers]
        exact h
      case enter f args =>
        refine ⟨h.1, CallsIn.mono h.2 fun e w'' he => ?_⟩
        cases e with
        | returned u => exact ⟨keep a hy u, by rw [← Act.put_comm a v u h2]; exact he⟩
        | panicked c => exact hQ _ _ _ he
        | outgrown => exact he
      case row row args => exact ⟨h.1, RowsIn.mono h.2 fun u w'' he => ⟨keep a hy u, by rw [← Act.put_comm a v u h2]; exact he⟩⟩
      case round l f tmps assign body =>
        refine ⟨h.1, RoundIn.mono h.2 fun e w'' he => ?_⟩
        cases e with
        | returned u => exact ⟨keep a hy u, by rw [← Act.put_comm a v u h2]; exact he⟩
        | panicked c => exact hQ _ _ _ he
        | outgrown => exact he
    | halt x w' =>
      cases x <;> simp only [Oper.uponIn] at h ⊢
      case panic u => exact hQ _ _ _ h
  · rename_i hw
    simp only [hw] at h
    exact ⟨fun _ _ => trivial, keep a hy _, by rw [← Act.put_comm a v undef h2]; exact h.2⟩

/-- Whatever order is picked from here on, and S holds behind every operation, of those that have come up. -/
def wpAnyG (rr : Option Nat) (P : Program) (ops : Array Oper) (Q : Exit → Act → World → Prop) (S : Array Bool → World → Prop) : Nat → Array Bool → Act → World → Prop
  | 0, listed, a, w => Region.ready .any ops listed = [] ∧ Q .normal a w
  | fuel + 1, listed, a, w =>
    (Region.ready .any ops listed = [] → Q .normal a w) ∧
    ∀ i ∈ Region.ready .any ops listed, wpOpIn (FW rr) 0 P ops Q i (fun a' w' => S (listed.setIfInBounds i true) w' ∧ wpAnyG rr P ops Q S fuel (listed.setIfInBounds i true) a' w') a w

theorem wpAny_of_G {S : Array Bool → World → Prop} : ∀ (fuel : Nat) (listed : Array Bool) (a : Act) (w : World), wpAnyG rr P ops Q S fuel listed a w → wpAnyIn (FW rr) 0 P .any ops Q fuel listed a w
  | 0, _, _, _, h => h
  | fuel + 1, _, _, _, h => ⟨h.1, fun i hi => wpOpIn_mono (fun a' w' h' => wpAny_of_G fuel _ a' w' h'.2) (h.2 i hi)⟩

theorem wpAnyG_mono {S S' : Array Bool → World → Prop} (hS : ∀ l w, S l w → S' l w) : ∀ (fuel : Nat) (listed : Array Bool) (a : Act) (w : World), wpAnyG rr P ops Q S fuel listed a w → wpAnyG rr P ops Q S' fuel listed a w
  | 0, _, _, _, h => h
  | fuel + 1, _, _, _, h => ⟨h.1, fun i hi => wpOpIn_mono (fun a' w' h' => ⟨hS _ _ h'.1, wpAnyG_mono hS fuel _ a' w' h'.2⟩) (h.2 i hi)⟩

theorem wpAnyG_done {S : Array Bool → World → Prop} {listed : Array Bool} {a : Act} {w : World} (hr : Region.ready .any ops listed = []) (h : Q .normal a w) : ∀ fuel, wpAnyG rr P ops Q S fuel listed a w
  | 0 => ⟨hr, h⟩
  | _ + 1 => ⟨fun _ => h, by rw [hr]; simp⟩

theorem wpAnyG_all {S : Array Bool → World → Prop} {fuel : Nat} {listed : Array Bool} {a : Act} {w : World} (hne : Region.ready .any ops listed ≠ [])
    (h : ∀ i ∈ Region.ready .any ops listed, wpOpIn (FW rr) 0 P ops Q i (fun a' w' => S (listed.setIfInBounds i true) w' ∧ wpAnyG rr P ops Q S fuel (listed.setIfInBounds i true) a' w') a w) : wpAnyG rr P ops Q S (fuel + 1) listed a w :=
  ⟨fun h0 => absurd h0 hne, h⟩

theorem wpOpIn_hext {j : Nat} {oj : Oper} (hj : ops[j]? = some oj) (hns : nsOp oj.op = true) {K : Act → World → Prop} {a : Act} {w : World} (h : wpOpIn (FW rr) 0 P ops Q j K a w) :
    wpOpIn (FW rr) 0 P ops Q j (fun a' w' => HExt w.heap w'.heap ∧ K a' w') a w := by
  unfold wpOpIn at *
  simp only [hj] at *
  split
  · rename_i hw
    simp only [hw, if_true] at h
    have hnd : ∀ c, oj.op ≠ .defer c := fun c hc => by rw [hc] at hns; simp [nsOp] at hns
    refine wpIn_of_run hnd ?_
    unfold Oper.wpIn at h
    have h := h.2
    rw [Oper.semAt_eq _ _ _ hnd] at h
    have hrun := NS.run (P := P) _ (NS.execOp a.eval oj hns) w
    have hov := nsOp_value (P := P) a.eval oj hns w
    generalize (execOp a.eval oj).run P w = r at *
    cases r with
    | ok n w' =>
      obtain ⟨u, rfl⟩ := hov n w' rfl
      simp only [Oper.uponIn] at h ⊢
      exact ⟨hrun, h⟩
    | halt x w' =>
      cases x <;> simp only [Oper.uponIn] at h ⊢
      case panic u => exact h
  · rename_i hw
    simp only [hw] at h
    exact ⟨fun _ _ => trivial, HExt.refl _, h.2⟩

/-- An operation is taken first. c: what it takes to yield its value; D: all that waits for it. -/
theorem wpAnyG_take {i : Nat} {oi : Oper} {v : Value} (hi : ops[i]? = some oi) (hsel : ∀ (j : Nat) (o : Oper) cs b, ops[j]? = some o → o.op ≠ .select cs b)
    (hQ : ∀ c a w, Q (.panic c) (a.put oi.dst v) w → Q (.panic c) a w) (D : List Nat) (c : World → Prop) (S S2 : Array Bool → World → Prop) (hS2 : ∀ l w, S2 l w → S l w) (hSi : ∀ l w, S2 (l.setIfInBounds i true) w → S l w)
    (step : ∀ (j : Nat) (oj : Oper) (l : Array Bool) (a : Act) (w : World) (K : Act → World → Prop), ops[j]? = some oj → j ≠ i → j ∉ D → l.getD j true = false → (∀ k ∈ D, l.getD k true = false ∧ k ≠ i ∧ k ≠ j) → c w →
      wpOpIn (FW rr) 0 P ops Q j (fun a' w' => S2 ((l.setIfInBounds i true).setIfInBounds j true) w' ∧ K a' w') a w →
      wpOpIn (FW rr) 0 P ops Q j (fun a' w' => c w' ∧ S2 ((l.setIfInBounds i true).setIfInBounds j true) w' ∧ K a' w') a w) :
    ∀ (fuel : Nat) (listed : Array Bool) (a : Act) (w : World),
      (∀ j oj, ops[j]? = some oj → j ≠ i → listed.getD j true = false → (∀ e ∈ oj.after, Region.binds .any e = true → e.on ≠ i) → oi.apart ops oj = true) →
      (∀ j ∈ D, listed.getD j true = false ∧ j ≠ i ∧ ∃ oj, ops[j]? = some oj ∧ ∃ e ∈ oj.after, Region.binds .any e = true ∧ (e.on = i ∨ e.on ∈ D)) →
      i ∈ Region.ready .any ops listed → YIf P ops c oi v a → c w → S (listed.setIfInBounds i true) w →
      wpAnyG rr P ops Q S2 fuel (listed.setIfInBounds i true) (a.put oi.dst v) w → wpAnyG rr P ops Q S (fuel + 1) listed a w := by
  intro fuel
  induction fuel with
  | zero =>
    intro listed a w _ _ hr hy hc hS H
    refine ⟨fun h => (by rw [h] at hr; cases hr), fun j hj => ?_⟩
    by_cases hji : j = i
    · subst hji; exact hy.wpOpIn hi hc ⟨hS, wpAnyG_mono hS2 _ _ _ _ H⟩
    · have := ready_mono hj hji
      rw [H.1] at this
      cases this
  | succ fuel ih =>
    intro listed a w hfree hD hr hy hc hS H
    refine ⟨fun h => (by rw [h] at hr; cases hr), fun j hj => ?_⟩
    by_cases hji : j = i
    · subst hji; exact hy.wpOpIn hi hc ⟨hS, wpAnyG_mono hS2 _ _ _ _ H⟩
    · have h1 := H.2 j (ready_mono hj hji)
      obtain ⟨hjun, oj, hoj, hall⟩ := mem_ready.1 hj
      have hiun := unlisted (mem_ready.1 hr).1
      have hnot : ∀ e ∈ oj.after, Region.binds .any e = true → e.on ≠ i := fun e he hb heq => by
        have h1 := hall e he hb
        rw [heq, hiun] at h1
        cases h1
      have hjD : j ∉ D := fun hm => by
        obtain ⟨_, _, oj', hoj', e, he, hb, hon⟩ := hD j hm
        rw [hoj] at hoj'
        injection hoj' with hoj'
        subst hoj'
        rcases hon with hon | hon
        · exact hnot e he hb hon
        · have h1 := hall e he hb
          rw [unlisted (hD _ hon).1] at h1
          cases h1
      have h1' := step j oj listed (a.put oi.dst v) w _ hoj hji hjD hjun (fun k hk => ⟨(hD k hk).1, (hD k hk).2.1, fun e => hjD (e ▸ hk)⟩) hc h1
      have h2 := wpOpIn_putIf hoj (hfree j oj hoj hji hjun hnot) (fun cs b => hsel i oi cs b hi) (fun cs b => hsel j oj cs b hoj) hQ hy h1'
      have hback : ∀ k, (listed.setIfInBounds j true).getD k true = false → listed.getD k true = false := fun k hun => by
        by_cases hjk : j = k
        · subst hjk; exact hjun
        · rw [getD_set_ne true hjk] at hun; exact hun
      refine wpOpIn_mono (fun a' w' h3 => ?_) h2
      obtain ⟨hy', hc', hS', H'⟩ := h3
      rw [Array.setIfInBounds_comm _ _ (Ne.symm hji)] at hS' H'
      refine ⟨hSi _ _ hS', ih (listed.setIfInBounds j true) a' w' (fun k ok hk hki hun hno => hfree k ok hk hki (hback k hun) hno) (fun k hk => ?_) (ready_mono hr (Ne.symm hji)) hy' hc' (hS2 _ _ hS') H'⟩
      obtain ⟨hu, hki, rest⟩ := hD k hk
      refine ⟨?_, hki, rest⟩
      rw [getD_set_ne true (fun e : j = k => hjD (by rw [e]; exact hk))]
      exact hu

/-- What was read first still reads the same, if nobody who waits for it has come up. -/
def Holds (sk : List (Nat × (World → Prop))) (l : Array Bool) (w : World) : Prop := ∀ p ∈ sk, (∀ j, p.1.testBit j = true → l.getD j false = false) → p.2 w

def clearS (i : Nat) : List (Nat × (World → Prop)) → List (Nat × (World → Prop))
  | [] => []
  | (W, s) :: r => (clearBit i W, s) :: clearS i r

theorem clearBit_test (i W j : Nat) : (clearBit i W).testBit j = (W.testBit j && !decide (i = j)) := by
  unfold clearBit
  split
  · rename_i h
    rw [Nat.testBit_xor]
    by_cases hij : i = j
    · subst hij; simp [h, Nat.testBit_two_pow_self]
    · rw [Nat.testBit_two_pow_of_ne hij]; simp [hij]
  · rename_i h
    by_cases hij : i = j
    · subst hij; simp [h]
    · simp [hij]

theorem mem_clearS {i : Nat} {W : Nat} {s : World → Prop} : ∀ {sk : List (Nat × (World → Prop))}, (W, s) ∈ sk → (clearBit i W, s) ∈ clearS i sk
  | (W', s') :: r, h => by
    rcases List.mem_cons.1 h with h | h
    · cases h; exact List.mem_cons_self
    · exact List.mem_cons_of_mem _ (mem_clearS h)

theorem clearS_mem {i : Nat} {p : Nat × (World → Prop)} : ∀ {sk : List (Nat × (World → Prop))}, p ∈ clearS i sk → ∃ W, (W, p.2) ∈ sk ∧ p.1 = clearBit i W
  | [], h => by cases h
  | (W', s') :: r, h => by
    rcases List.mem_cons.1 h with h | h
    · subst h; exact ⟨W', List.mem_cons_self, rfl⟩
    · obtain ⟨W, h1, h2⟩ := clearS_mem h
      exact ⟨W, List.mem_cons_of_mem _ h1, h2⟩

theorem Holds.unclear {i : Nat} {sk : List (Nat × (World → Prop))} {l : Array Bool} {w : World} (h : Holds (clearS i sk) l w) : Holds sk l w := fun p hp hl =>
  h (clearBit i p.1, p.2) (mem_clearS hp) fun j hj => hl j (by rw [clearBit_test] at hj; simp at hj; exact hj.1)

theorem Holds.back {i : Nat} {sk : List (Nat × (World → Prop))} {l : Array Bool} {w : World} (h : Holds (clearS i sk) (l.setIfInBounds i true) w) : Holds sk l w := fun p hp hl =>
  h (clearBit i p.1, p.2) (mem_clearS hp) fun j hj => by
    rw [clearBit_test] at hj
    simp at hj
    rw [getD_set_ne false hj.2]
    exact hl j hj.1

theorem Holds.forth {i : Nat} {sk : List (Nat × (World → Prop))} {l : Array Bool} {w : World} (hi : l.getD i false = false) (h : Holds sk l w) : Holds (clearS i sk) (l.setIfInBounds i true) w := fun p hp hl => by
  obtain ⟨W, h1, h2⟩ := clearS_mem hp
  refine h (W, p.2) h1 fun j hj => ?_
  by_cases hij : i = j
  · subst hij; exact hi
  · have := hl j (by rw [h2, clearBit_test]; simp [hij]; exact hj)
    rwa [getD_set_ne false hij] at this

theorem Holds.more {i : Nat} {sk : List (Nat × (World → Prop))} {l : Array Bool} {w : World} (h : Holds sk l w) : Holds sk (l.setIfInBounds i true) w := fun p hp hl =>
  h p hp fun j hj => by
    have h1 := hl j hj
    cases hq : l.getD j false with
    | false => rfl
    | true => rw [getD_set_true hq] at h1; cases h1

inductive ChkRel (N : Nat) : Chk → List (Nat × (World → Prop)) → Prop where
  | nil : ChkRel N [] []
  | cons {W : Nat} {c : Heap → Prop} {s : World → Prop} {ck : Chk} {sk : List (Nat × (World → Prop))} (h1 : ∀ w : World, c w.heap → s w) (h2 : ∀ w w' : World, HExt w.heap w'.heap → s w → s w') (h3 : ∀ j, W.testBit j = true → j < N)
      (r : ChkRel N ck sk) : ChkRel N ((W, c) :: ck) ((W, s) :: sk)

theorem ChkRel.clear {N : Nat} {ck : Chk} {sk : List (Nat × (World → Prop))} (i : Nat) (r : ChkRel N ck sk) : ChkRel N (ck.clear i) (clearS i sk) := by
  induction r with
  | nil => exact .nil
  | cons h1 h2 h3 r ih => exact .cons h1 h2 (fun j hj => h3 j (by rw [clearBit_test] at hj; simp at hj; exact hj.1)) ih

theorem ChkRel.ext {N : Nat} {ck : Chk} {sk : List (Nat × (World → Prop))} (r : ChkRel N ck sk) {w w' : World} (hx : HExt w.heap w'.heap) : ∀ p ∈ sk, p.2 w → p.2 w' := by
  induction r with
  | nil => intro p hp; cases hp
  | cons h1 h2 h3 r ih =>
    intro p hp
    rcases List.mem_cons.1 hp with rfl | hp
    · exact h2 w w' hx
    · exact ih p hp

theorem ChkRel.lt {N : Nat} {ck : Chk} {sk : List (Nat × (World → Prop))} (r : ChkRel N ck sk) : ∀ p ∈ sk, ∀ j, p.1.testBit j = true → j < N := by
  induction r with
  | nil => intro p hp; cases hp
  | cons h1 h2 h3 r ih =>
    intro p hp
    rcases List.mem_cons.1 hp with rfl | hp
    · exact h3
    · exact ih p hp

theorem chk_holds {N m : Nat} {X : Prop} {w : World} {ck : Chk} {sk : List (Nat × (World → Prop))} (r : ChkRel N ck sk) (H : chk ck m w.heap X) : X ∧ ∀ p ∈ sk, m &&& p.1 = 0 → p.2 w := by
  induction r with
  | nil => exact ⟨H, by simp⟩
  | @cons W c s ck sk h1 h2 h3 r ih =>
    simp only [chk] at H
    split at H
    · rename_i hb
      obtain ⟨hc, H⟩ := H
      obtain ⟨hX, hA⟩ := ih H
      refine ⟨hX, fun p hp h0 => ?_⟩
      rcases List.mem_cons.1 hp with rfl | hp
      · exact h1 w hc
      · exact hA p hp h0
    · rename_i hb
      obtain ⟨hX, hA⟩ := ih H
      refine ⟨hX, fun p hp h0 => ?_⟩
      rcases List.mem_cons.1 hp with rfl | hp
      · exfalso
        have h4 : Nat.beq (m &&& W) 0 = true := by
          rw [h0]; rfl
        rw [hb] at h4
        cases h4
      · exact hA p hp h0

/-- What panics is not asked for. -/
def NoP (Q : Exit → Act → World → Prop) : Exit → Act → World → Prop
  | .panic _, _, _ => False
  | e, a, w => Q e a w

theorem evOp_local {n : Nat} {env : Env} {o : Oper} {K : Env → Heap → Prop} {h : Heap} {w0 : World} {a : Act} {w : World}
    (hl : localAt P env o = true) (H : evOp P n env o K h) (at_ : At n ds env w0 a w h) :
    ∃ v env', (∀ w' : World, (execOp a.eval o).run P w' = .ok (.value v) w') ∧ (∀ c, o.op ≠ .defer c) ∧ K env' h ∧ At n ds env' w0 (a.put o.dst v) w h := by
  unfold evOp at H
  split at H
  case h_2 => exact H.elim
  case h_1 hck =>
    rw [Bool.and_eq_true] at hck
    obtain ⟨hkn, hd⟩ := hck
    have hm := does_meets (P := P) env.eval o
    have hex : does P env.eval o ≠ .bad → execOp a.eval o = execOp env.eval o := fun hb =>
      execOp_congr o (does_noSelect (P := P) (ρ := env.eval) (fun d hd => hd ▸ hb)) (fun x hx => Env.eval_ok at_.ok (knowsOp_spec hkn x hx))
    unfold localAt at hl
    rw [hkn] at hl
    have hnd : does P env.eval o ≠ .bad → ∀ c, o.op ≠ .defer c := fun hb => does_noDefer (P := P) (ρ := env.eval) (fun d hd => hd ▸ hb)
    cases hdo : does P env.eval o with
    | pure v =>
      rw [hdo] at H hm
      refine ⟨v, _, fun w' => ?_, hnd (by simp [hdo]), H, at_.put hd (fun b hb => flagOf_ok at_.ok hdo hb) at_.heap (Same.refl w)⟩
      rw [hex (by simp [hdo]), hm w']
    | localP q =>
      rw [hdo] at H hm
      obtain ⟨v, hv, hk⟩ := hm _ H
      refine ⟨v, _, fun w' => ?_, hnd (by simp [hdo]), hk, at_.put hd (fun b hb => by cases hb) at_.heap (Same.refl w)⟩
      rw [hex (by simp [hdo]), hv w']
    | _ => rw [hdo] at hl; cases hl

end

/-! The plan's soundness. -/

/-- Which operations have come up, as the model keeps it. -/
def listedOf (m n : Nat) : Array Bool := ((List.range n).map fun i => m.testBit i).toArray

theorem bltI {a b : Nat} : Nat.blt a b = true ↔ a < b := by rw [Nat.blt_eq]

theorem listedOf_get (m n i : Nat) : (listedOf m n)[i]? = if i < n then some (m.testBit i) else none := by
  unfold listedOf
  by_cases h : i < n
  · simp [h]
  · simp [h]

theorem listedOf_getD (m n i : Nat) (d : Bool) : (listedOf m n).getD i d = if i < n then m.testBit i else d := by
  rw [Array.getD_eq_getD_getElem?, listedOf_get]
  split <;> rfl

theorem listedOf_set (m n i : Nat) : (listedOf m n).setIfInBounds i true = listedOf (m ||| 2 ^ i) n := by
  apply Array.ext_getElem?
  intro j
  rw [Array.getElem?_setIfInBounds, listedOf_get, listedOf_get]
  have hs : (listedOf m n).size = n := by simp [listedOf]
  rw [hs]
  by_cases hij : i = j
  · subst hij
    simp [Nat.testBit_or, Nat.testBit_two_pow_self]
  · simp only [hij, if_false, Nat.testBit_or]
    rw [Nat.testBit_two_pow_of_ne hij]
    simp

theorem listedOf_zero (n : Nat) : Array.replicate n false = listedOf 0 n := by
  apply Array.ext_getElem?
  intro j
  rw [listedOf_get, Array.getElem?_replicate]
  simp

theorem allIdx_spec {f : Nat → Oper → Bool} : ∀ {l : List Oper} {j : Nat}, allIdx f j l = true → ∀ i o, l[i]? = some o → f (j + i) o = true
  | [], _, _, i, o, h => by simp at h
  | x :: r, j, h, i, o, hi => by
    simp only [allIdx] at h
    split at h
    · rename_i hx
      cases i with
      | zero => simp at hi; subst hi; exact hx
      | succ i =>
        have := allIdx_spec h i o (by simpa using hi)
        rwa [show j + 1 + i = j + (i + 1) by omega] at this
    · cases h

section
variable {P : Program} {ops : Array Oper} {Q : Exit → Act → World → Prop}

theorem readyB_spec {n m i : Nat} (hn : n = ops.size) (h : readyB ops.toList n m i = true) : i ∈ Region.ready .any ops (listedOf m n) ∧ i < n := by
  unfold readyB at h
  split at h
  · rename_i o ho
    have ho' : ops[i]? = some o := by rw [← Array.getElem?_toList]; exact ho
    have hi : i < n := by rw [hn]; exact (Array.getElem?_eq_some_iff.1 ho').1
    rw [Bool.and_eq_true] at h
    refine ⟨mem_ready.2 ⟨?_, o, ho', fun e he hb => ?_⟩, hi⟩
    · rw [listedOf_getD, if_pos hi]; simpa using h.1
    · have := (List.all_eq_true.1 h.2) e (by simpa using he)
      rw [hb] at this
      simp only [Bool.not_true, Bool.false_or, Bool.and_eq_true] at this
      rw [listedOf_getD, if_pos (bltI.1 this.1)]
      exact this.2
  · cases h

theorem ready_readyB {n m i : Nat} (hn : n = ops.size) (h : i ∈ Region.ready .any ops (listedOf m n)) : readyB ops.toList n m i = true ∧ i < n := by
  obtain ⟨h1, o, ho, h2⟩ := mem_ready.1 h
  have hi : i < n := by rw [hn]; exact (Array.getElem?_eq_some_iff.1 ho).1
  refine ⟨?_, hi⟩
  unfold readyB
  have ho' : ops.toList[i]? = some o := by rw [Array.getElem?_toList]; exact ho
  rw [ho']
  rw [listedOf_getD, if_pos hi] at h1
  simp only [Bool.and_eq_true, List.all_eq_true]
  refine ⟨by simp [h1], fun e he => ?_⟩
  cases hb : Region.binds .any e with
  | false => simp
  | true =>
    have := h2 e (by simpa using he) hb
    rw [listedOf_getD] at this
    split at this
    · rename_i hlt
      simp [this, bltI.2 hlt]
    · cases this

theorem freeB_spec {n m i : Nat} (hn : n = ops.size) {oi : Oper} (hi : ops[i]? = some oi) (h : freeB ops ops.toList m i = true) (j : Nat) (oj : Oper)
    (hj : ops[j]? = some oj) (hne : j ≠ i) (hun : (listedOf m n).getD j true = false) (hno : ∀ e ∈ oj.after, Region.binds .any e = true → e.on ≠ i) : oi.apart ops oj = true := by
  unfold freeB at h
  have hi' : ops.toList[i]? = some oi := by rw [Array.getElem?_toList]; exact hi
  rw [hi'] at h
  have := allIdx_spec h j oj (by rw [Array.getElem?_toList]; exact hj)
  simp only [Nat.zero_add, Bool.or_eq_true] at this
  have hlt : j < n := by rw [hn]; exact (Array.getElem?_eq_some_iff.1 hj).1
  rw [listedOf_getD, if_pos hlt] at hun
  rcases this with ((h1 | h1) | h1) | h1
  · rw [hun] at h1; cases h1
  · exact absurd (Nat.eq_of_beq_eq_true h1) hne
  · obtain ⟨e, he, hb⟩ := List.any_eq_true.1 h1
    rw [Bool.and_eq_true] at hb
    exact absurd (Nat.eq_of_beq_eq_true hb.2) (hno e (by simpa using he) hb.1)
  · exact h1

theorem depB_spec {n m i D : Nat} (hn : n = ops.size) (h : depB ops.toList m i D = true) :
    (∀ j ∈ (List.range n).filter D.testBit, (listedOf m n).getD j true = false ∧ j ≠ i ∧ ∃ oj, ops[j]? = some oj ∧ ∃ e ∈ oj.after, Region.binds .any e = true ∧ (e.on = i ∨ e.on ∈ (List.range n).filter D.testBit)) ∧
    ∀ j, D.testBit j = true → j < n := by
  unfold depB at h
  rw [Bool.and_eq_true] at h
  obtain ⟨h, hD⟩ := h
  have hD' : D < 2 ^ n := by rw [bltI] at hD; rw [hn]; simpa using hD
  have inn : ∀ j, D.testBit j = true → j < n := fun j hj => by
    rcases Nat.lt_or_ge j n with h1 | h1
    · exact h1
    · rw [Nat.testBit_lt_two_pow (Nat.lt_of_lt_of_le hD' (Nat.pow_le_pow_right (by decide) h1))] at hj; cases hj
  refine ⟨fun j hjm => ?_, inn⟩
  obtain ⟨hr, hjW⟩ := List.mem_filter.1 hjm
  have hlt : j < n := List.mem_range.1 hr
  obtain ⟨oj, hoj⟩ : ∃ oj, ops[j]? = some oj := ⟨ops[j]'(by omega), Array.getElem?_eq_getElem (by omega)⟩
  have h2 := allIdx_spec h j oj (by rw [Array.getElem?_toList]; exact hoj)
  simp only [Nat.zero_add] at h2
  rw [hjW] at h2
  simp only [Bool.not_true, Bool.false_or, Bool.and_eq_true] at h2
  obtain ⟨⟨h3, h4⟩, h5⟩ := h2
  refine ⟨?_, fun e => ?_, oj, hoj, ?_⟩
  · rw [listedOf_getD, if_pos hlt]; simpa using h3
  · subst e; simp at h4
  · obtain ⟨e, he, hb⟩ := List.any_eq_true.1 h5
    rw [Bool.and_eq_true, Bool.or_eq_true] at hb
    refine ⟨e, by simpa using he, hb.1, ?_⟩
    rcases hb.2 with hb | hb
    · exact .inl (Nat.eq_of_beq_eq_true hb)
    · exact .inr (List.mem_filter.2 ⟨List.mem_range.2 (inn _ hb), hb⟩)

theorem coversAll_spec {n m : Nat} (hn : n = ops.size) {p : Plan} (h : coversAll ops.toList n m p = true) (i : Nat) (hi : i ∈ Region.ready .any ops (listedOf m n)) : p.covers i = true := by
  obtain ⟨hr, hlt⟩ := ready_readyB hn hi
  have := allIdx_spec h i (ops[i]'(by omega)) (by rw [Array.getElem?_toList]; exact Array.getElem?_eq_getElem (by omega))
  simp only [Nat.zero_add, Bool.or_eq_true] at this
  rcases this with h1 | h1
  · rw [hr] at h1; cases h1
  · exact h1

theorem holds_chk {N m : Nat} {w : World} {ck : Chk} {sk : List (Nat × (World → Prop))} (r : ChkRel N ck sk) (H : ∀ p ∈ sk, m &&& p.1 = 0 → p.2 w) : Holds sk (listedOf m N) w := fun p hp hl => by
  refine H p hp (Nat.eq_of_testBit_eq fun j => ?_)
  rw [Nat.testBit_and, Nat.zero_testBit]
  cases hj : p.1.testBit j with
  | false => simp
  | true =>
    have := hl j hj
    rw [listedOf_getD, if_pos (r.lt p hp j hj)] at this
    simp [this]

theorem evPlan_sound {rr : Option Nat} (hsn : Region.noSelect ops = true) (hQ : ∀ c a w, ¬ Q (.panic c) a w) {n : Nat} {w0 : World} {N : Nat} (hN : N = ops.size) : ∀ (p : Plan) (m : Nat) (ck : Chk) (sk : List (Nat × (World → Prop))) (env : Env) (K : Env → Heap → Prop) (h : Heap) (a : Act) (w : World) (b : Bool),
    p.ok ops ops.toList N b m = true → evPlan P n ops p m ck env K h → At n ds env w0 a w h → ChkRel N ck sk → Holds sk (listedOf m N) w → ∀ a0 : Act, Kept (dsts ops.toList) a0 a →
    (∀ env' a' w' h', K env' h' → At n ds env' w0 a' w' h' → Kept (dsts ops.toList) a0 a' → Q .normal a' w') → ∀ f, p.depth ≤ f →
    (b = false → wpAnyG rr P ops Q (Holds sk) f (listedOf m N) a w) ∧
    (∀ i, p.covers i = true → ∃ g, f = g + 1 ∧ wpOpIn (FW rr) 0 P ops Q i (fun a' w' => Holds sk (listedOf (m ||| 2 ^ i) N) w' ∧ wpAnyG rr P ops Q (Holds sk) g (listedOf (m ||| 2 ^ i) N) a' w') a w) := by
  -- how a step's act stands to the one that the region began with
  have kput : ∀ {i : Nat} {o : Oper}, ops[i]? = some o → ∀ {a0 a1 : Act} {v : Value}, Kept (dsts ops.toList) a0 a1 → Kept (dsts ops.toList) a0 (a1.put o.dst v) := by
    intro i o ho a0 a1 v k1
    have k2 := Kept.put a1 o.dst v
    have hmem : o ∈ ops.toList := by
      have := Array.mem_of_getElem? ho
      simpa using this
    refine (k1.trans k2).mono fun t ht => ?_
    rcases List.mem_append.1 ht with ht | ht
    · exact ht
    · exact List.mem_flatMap.2 ⟨o, hmem, ht⟩
  have kmem : ∀ {i : Nat} {o : Oper}, ops[i]? = some o → ∀ {a0 a1 a2 : Act}, Kept (dsts ops.toList) a0 a1 → Kept o.dst.toList a1 a2 → Kept (dsts ops.toList) a0 a2 := by
    intro i o ho a0 a1 a2 k1 k2
    have hmem : o ∈ ops.toList := by
      have := Array.mem_of_getElem? ho
      simpa using this
    refine (k1.trans k2).mono fun t ht => ?_
    rcases List.mem_append.1 ht with ht | ht
    · exact ht
    · exact List.mem_flatMap.2 ⟨o, hmem, ht⟩
  -- one step that may be any
  have one0 : ∀ (i : Nat) (env : Env) (X : Env → Heap → Prop) (h : Heap) (a : Act) (w : World) (G : Act → World → Prop), stepOne P n ops env i X h → At n ds env w0 a w h → ∀ a0, Kept (dsts ops.toList) a0 a →
      (∀ env' a' w' h', X env' h' → At n ds env' w0 a' w' h' → Kept (dsts ops.toList) a0 a' → G a' w') → wpOpIn (FW rr) 0 P ops Q i G a w := by
    intro i env X h a w G hs at_ a0 k0 hX
    unfold stepOne at hs
    unfold wpOpIn
    cases ho : ops[i]? with
    | none => rw [ho] at hs; exact hs.elim
    | some o =>
      simp only [ho] at hs ⊢
      have hg := guardOf_spec (ops := ops) (o := o) at_.ok
      cases hgu : guardOf ops env o with
      | go =>
        simp only [hgu] at hs hg
        rw [if_pos hg]
        exact (evOp_sound hs at_ fun env' a' w' h' hk hat k => hX _ _ _ _ hk hat (kmem ho k0 k))
      | skip =>
        simp only [hgu] at hs hg
        rw [if_neg (by simp [hg])]
        obtain ⟨env', hk, hat⟩ := evSkip_sound hs at_
        refine ⟨fun _ _ => trivial, ?_⟩
        exact hX _ _ _ _ hk hat (kput ho k0)
      | bad => simp only [hgu] at hs
      | ask t c want => simp only [hgu] at hs
  have ask0 : ∀ (i : Nat) (env : Env) (X Y : Env → Heap → Prop) (h : Heap) (a : Act) (w : World) (G : Act → World → Prop), stepAsk P n ops env i X Y h → At n ds env w0 a w h → ∀ a0, Kept (dsts ops.toList) a0 a →
      (∀ env' a' w' h', X env' h' ∨ Y env' h' → At n ds env' w0 a' w' h' → Kept (dsts ops.toList) a0 a' → G a' w') → wpOpIn (FW rr) 0 P ops Q i G a w := by
    intro i env X Y h a w G hs at_ a0 k0 hX
    unfold stepAsk at hs
    unfold wpOpIn
    cases ho : ops[i]? with
    | none => rw [ho] at hs; exact hs.elim
    | some o =>
      simp only [ho] at hs ⊢
      have hg := guardOf_spec (ops := ops) (o := o) at_.ok
      cases hgu : guardOf ops env o with
      | ask t c want =>
        simp only [hgu] at hs hg
        obtain ⟨ht, hw⟩ := hg
        cases want <;> cases c <;> simp only [if_true, Bool.false_eq_true, if_false] at hs
        · rw [if_pos (by simp [hw])]; exact (evOp_sound hs (at_.mark ht) fun env' a' w' h' hk hat k => hX _ _ _ _ (.inr hk) hat (kmem ho k0 k))
        · rw [if_neg (by simp [hw])]
          obtain ⟨env', hk, hat⟩ := evSkip_sound hs (at_.mark ht)
          refine ⟨fun _ _ => trivial, ?_⟩
          exact hX _ _ _ _ (.inl hk) hat (kput ho k0)
        · rw [if_neg (by simp [hw])]
          obtain ⟨env', hk, hat⟩ := evSkip_sound hs (at_.mark ht)
          refine ⟨fun _ _ => trivial, ?_⟩
          exact hX _ _ _ _ (.inr hk) hat (kput ho k0)
        · rw [if_pos (by simp [hw])]; exact (evOp_sound hs (at_.mark ht) fun env' a' w' h' hk hat k => hX _ _ _ _ (.inl hk) hat (kmem ho k0 k))
      | _ => simp only [hgu] at hs
  -- the checks behind a step
  have chks : ∀ (i m : Nat) (ck : Chk) (sk : List (Nat × (World → Prop))) (w w' : World) (Z : Prop), ChkRel N ck sk → Holds sk (listedOf m N) w → (nsAt ops i = true → HExt w.heap w'.heap) →
      chkAt ops i ck (m ||| 2 ^ i) w'.heap Z → Z ∧ Holds sk (listedOf (m ||| 2 ^ i) N) w' := by
    intro i m ck sk w w' Z r hS hx H
    unfold chkAt at H
    split at H
    · rename_i hns
      refine ⟨H, fun p hp hl => r.ext (hx hns) p hp (hS p hp fun j hj => ?_)⟩
      have := hl j hj
      rw [← listedOf_set] at this
      cases hq : (listedOf m N).getD j false with
      | false => rfl
      | true => rw [getD_set_true hq] at this; cases this
    · obtain ⟨h1, h2⟩ := chk_holds r H
      exact ⟨h1, holds_chk r h2⟩
  have hx0 : ∀ (i : Nat) (K : Act → World → Prop) (a : Act) (w : World), wpOpIn (FW rr) 0 P ops Q i K a w → wpOpIn (FW rr) 0 P ops Q i (fun a' w' => (nsAt ops i = true → HExt w.heap w'.heap) ∧ K a' w') a w := by
    intro i K a w H
    by_cases hns : nsAt ops i = true
    · cases ho : ops[i]? with
      | none =>
        unfold wpOpIn at H ⊢
        simp only [ho] at H ⊢
        exact ⟨fun _ => HExt.refl _, H⟩
      | some o =>
        have hns' : nsOp o.op = true := by unfold nsAt at hns; rw [ho] at hns; exact hns
        exact wpOpIn_mono (fun a' w' h => ⟨fun _ => h.1, h.2⟩) (wpOpIn_hext ho hns' H)
    · exact wpOpIn_mono (fun a' w' h => ⟨fun x => absurd x hns, h⟩) H
  have one : ∀ (i m : Nat) (ck : Chk) (sk : List (Nat × (World → Prop))) (env : Env) (X : Env → Heap → Prop) (h : Heap) (a : Act) (w : World) (G : Act → World → Prop), ChkRel N ck sk → Holds sk (listedOf m N) w →
      stepOne P n ops env i (fun env' h' => chkAt ops i ck (m ||| 2 ^ i) h' (X env' h')) h → At n ds env w0 a w h → ∀ a0, Kept (dsts ops.toList) a0 a →
      (∀ env' a' w' h', X env' h' → At n ds env' w0 a' w' h' → Kept (dsts ops.toList) a0 a' → Holds sk (listedOf (m ||| 2 ^ i) N) w' → G a' w') → wpOpIn (FW rr) 0 P ops Q i G a w := by
    intro i m ck sk env X h a w G r hS hs at_ a0 k0 hX
    refine wpOpIn_mono (fun a' w' h => ?_) (hx0 i _ a w (one0 i env _ h a w (fun a' w' => ∃ env' h', chkAt ops i ck (m ||| 2 ^ i) h' (X env' h') ∧ At n ds env' w0 a' w' h' ∧ Kept (dsts ops.toList) a0 a') hs at_ a0 k0
      (fun env' a' w' h' h1 h2 h3 => ⟨env', h', h1, h2, h3⟩)))
    obtain ⟨hx, env', h', h1, h2, h3⟩ := h
    have hh := h2.heap
    subst hh
    obtain ⟨h4, h5⟩ := chks i m ck sk w w' _ r hS hx h1
    exact hX _ _ _ _ h4 h2 h3 h5
  have ask : ∀ (i m : Nat) (ck : Chk) (sk : List (Nat × (World → Prop))) (env : Env) (X Y : Env → Heap → Prop) (h : Heap) (a : Act) (w : World) (G : Act → World → Prop), ChkRel N ck sk → Holds sk (listedOf m N) w →
      stepAsk P n ops env i (fun env' h' => chkAt ops i ck (m ||| 2 ^ i) h' (X env' h')) (fun env' h' => chkAt ops i ck (m ||| 2 ^ i) h' (Y env' h')) h → At n ds env w0 a w h → ∀ a0, Kept (dsts ops.toList) a0 a →
      (∀ env' a' w' h', X env' h' ∨ Y env' h' → At n ds env' w0 a' w' h' → Kept (dsts ops.toList) a0 a' → Holds sk (listedOf (m ||| 2 ^ i) N) w' → G a' w') → wpOpIn (FW rr) 0 P ops Q i G a w := by
    intro i m ck sk env X Y h a w G r hS hs at_ a0 k0 hX
    refine wpOpIn_mono (fun a' w' h => ?_) (hx0 i _ a w (ask0 i env _ _ h a w (fun a' w' => ∃ env' h', (chkAt ops i ck (m ||| 2 ^ i) h' (X env' h') ∨ chkAt ops i ck (m ||| 2 ^ i) h' (Y env' h')) ∧ At n ds env' w0 a' w' h' ∧ Kept (dsts ops.toList) a0 a') hs at_ a0 k0
      (fun env' a' w' h' h1 h2 h3 => ⟨env', h', h1, h2, h3⟩)))
    obtain ⟨hx, env', h', h1, h2, h3⟩ := h
    have hh := h2.heap
    subst hh
    rcases h1 with h1 | h1
    · obtain ⟨h4, h5⟩ := chks i m ck sk w w' _ r hS hx h1
      exact hX _ _ _ _ (.inl h4) h2 h3 h5
    · obtain ⟨h4, h5⟩ := chks i m ck sk w w' _ r hS hx h1
      exact hX _ _ _ _ (.inr h4) h2 h3 h5
  have unl : ∀ (i m : Nat), readyB ops.toList N m i = true → (listedOf m N).getD i false = false := fun i m hr => unlisted (mem_ready.1 (readyB_spec hN hr).1).1
  -- a local step
  have take : ∀ (i : Nat) (o : Oper) (m : Nat) (g : Nat) (sk : List (Nat × (World → Prop))) (a : Act) (w : World) (v : Value), ops[i]? = some o → readyB ops.toList N m i = true → freeB ops ops.toList m i = true → (∀ S, YIf P ops S o v a) →
      Holds sk (listedOf m N) w → wpAnyG rr P ops Q (Holds (clearS i sk)) g (listedOf (m ||| 2 ^ i) N) (a.put o.dst v) w → wpAnyG rr P ops Q (Holds sk) (g + 1) (listedOf m N) a w := by
    intro i o m g sk a w v ho hr hf hy hS H
    rw [← listedOf_set] at H
    refine wpAnyG_take ho (Region.noSelect_spec hsn) (fun c a w hq => absurd hq (hQ c _ w)) [] (fun _ => True) (Holds sk) (Holds (clearS i sk)) (fun l w h => h.unclear) (fun l w h => h.back)
      (fun j oj l a w K _ _ _ _ _ _ h => wpOpIn_mono (fun a' w' h => ⟨trivial, h⟩) h) g (listedOf m N) a w (freeB_spec hN ho hf) (by simp) (readyB_spec hN hr).1 (hy _) trivial hS.more H
  intro p
  induction p with
  | done =>
    intro m ck sk env K h a w b hok H at_ r hS a0 k0 hK f hf
    refine ⟨fun _ => ?_, fun i hi => by simp [Plan.covers] at hi⟩
    simp only [Plan.ok, Bool.and_eq_true] at hok
    have hm := Nat.eq_of_beq_eq_true hok.2
    refine wpAnyG_done ?_ (hK _ _ _ _ H at_ k0) f
    cases hr : Region.ready .any ops (listedOf m N) with
    | nil => rfl
    | cons x xs =>
      have hx : x ∈ Region.ready .any ops (listedOf m N) := by rw [hr]; simp
      obtain ⟨h1, hlt⟩ := ready_readyB hN hx
      obtain ⟨h1, o, _, _⟩ := mem_ready.1 hx
      rw [listedOf_getD, if_pos hlt, hm, Nat.testBit_two_pow_sub_one] at h1
      simp [hlt] at h1
  | loc i p ih =>
    intro m ck sk env K h a w b hok H at_ r hS a0 k0 hK f hf
    refine ⟨fun _ => ?_, fun i hi => by simp [Plan.covers] at hi⟩
    simp only [Plan.ok, Bool.and_eq_true] at hok
    obtain ⟨_, ⟨hr, hfr⟩, hp⟩ := hok
    obtain ⟨g, rfl⟩ : ∃ g, f = g + 1 := ⟨f - 1, by simp [Plan.depth] at hf; omega⟩
    have hS2 : Holds (clearS i sk) (listedOf (m ||| 2 ^ i) N) w := by rw [← listedOf_set]; exact hS.forth (unl i m hr)
    simp only [evPlan] at H
    split at H
    case h_2 => exact H.elim
    case h_1 hl =>
      split at hl
      case h_2 => cases hl
      case h_1 o ho =>
        unfold stepOne at H
        simp only [ho] at H
        have hg := guardOf_spec (ops := ops) (o := o) at_.ok
        unfold isLocal at hl
        cases hgu : guardOf ops env o with
        | go =>
          simp only [hgu] at H hg hl
          obtain ⟨v, env', hv, hnd, hk, hat⟩ := evOp_local hl H at_
          exact take i o m g sk a w v ho hr hfr (fun S => .inl ⟨hg, hnd, fun w _ => hv w⟩) hS ((ih _ _ _ env' K h _ w false hp hk hat (r.clear i) hS2 a0 (kput ho k0) hK g (by simp [Plan.depth] at hf; omega)).1 rfl)
        | skip =>
          simp only [hgu] at H hg
          obtain ⟨env', hk, hat⟩ := evSkip_sound H at_
          exact take i o m g sk a w _ ho hr hfr (fun S => .inr ⟨hg, rfl⟩) hS ((ih _ _ _ env' K h _ w false hp hk hat (r.clear i) hS2 a0 (kput ho k0) hK g (by simp [Plan.depth] at hf; omega)).1 rfl)
        | bad => simp only [hgu] at H
        | ask t c want => simp only [hgu] at H
  | locA i p q ihp ihq =>
    intro m ck sk env K h a w b hok H at_ r hS a0 k0 hK f hf
    refine ⟨fun _ => ?_, fun i hi => by simp [Plan.covers] at hi⟩
    simp only [Plan.ok, Bool.and_eq_true] at hok
    obtain ⟨_, ⟨⟨hr, hfr⟩, hp⟩, hq⟩ := hok
    obtain ⟨g, rfl⟩ : ∃ g, f = g + 1 := ⟨f - 1, by simp [Plan.depth] at hf; omega⟩
    have hdp : p.depth ≤ g := by simp [Plan.depth] at hf; omega
    have hdq : q.depth ≤ g := by simp [Plan.depth] at hf; omega
    have hS2 : Holds (clearS i sk) (listedOf (m ||| 2 ^ i) N) w := by rw [← listedOf_set]; exact hS.forth (unl i m hr)
    simp only [evPlan] at H
    split at H
    case h_2 => exact H.elim
    case h_1 hl =>
      split at hl
      case h_2 => cases hl
      case h_1 o ho =>
        unfold stepAsk at H
        simp only [ho] at H
        have hg := guardOf_spec (ops := ops) (o := o) at_.ok
        unfold isLocal at hl
        cases hgu : guardOf ops env o with
        | ask t c want =>
          simp only [hgu] at H hg hl
          obtain ⟨ht, hw⟩ := hg
          cases want <;> cases c <;> simp only [if_true, Bool.false_eq_true, if_false] at H
          · obtain ⟨v, env', hv, hnd, hk, hat⟩ := evOp_local hl H (at_.mark ht)
            exact take i o m g sk a w v ho hr hfr (fun S => .inl ⟨by simp [hw], hnd, fun w _ => hv w⟩) hS ((ihq _ _ _ env' K h _ w false hq hk hat (r.clear i) hS2 a0 (kput ho k0) hK g hdq).1 rfl)
          · obtain ⟨env', hk, hat⟩ := evSkip_sound H (at_.mark ht)
            exact take i o m g sk a w _ ho hr hfr (fun S => .inr ⟨by simp [hw], rfl⟩) hS ((ihp _ _ _ env' K h _ w false hp hk hat (r.clear i) hS2 a0 (kput ho k0) hK g hdp).1 rfl)
          · obtain ⟨env', hk, hat⟩ := evSkip_sound H (at_.mark ht)
            exact take i o m g sk a w _ ho hr hfr (fun S => .inr ⟨by simp [hw], rfl⟩) hS ((ihq _ _ _ env' K h _ w false hq hk hat (r.clear i) hS2 a0 (kput ho k0) hK g hdq).1 rfl)
          · obtain ⟨v, env', hv, hnd, hk, hat⟩ := evOp_local hl H (at_.mark ht)
            exact take i o m g sk a w v ho hr hfr (fun S => .inl ⟨by simp [hw], hnd, fun w _ => hv w⟩) hS ((ihp _ _ _ env' K h _ w false hp hk hat (r.clear i) hS2 a0 (kput ho k0) hK g hdp).1 rfl)
        | _ => simp only [hgu] at H
  | st i D p ih =>
    intro m ck sk env K h a w b hok H at_ r hS a0 k0 hK f hf
    refine ⟨fun _ => ?_, fun i hi => by simp [Plan.covers] at hi⟩
    simp only [Plan.ok, Bool.and_eq_true] at hok
    obtain ⟨_, ⟨⟨hr, hfr⟩, hdp⟩, hp⟩ := hok
    obtain ⟨g, rfl⟩ : ∃ g, f = g + 1 := ⟨f - 1, by simp [Plan.depth] at hf; omega⟩
    obtain ⟨hd1, hd2⟩ := depB_spec hN hdp
    simp only [evPlan, stepSt] at H
    cases ho : ops[i]? with
    | none => rw [ho] at H; exact H.elim
    | some o =>
      simp only [ho] at H
      have hg := guardOf_spec (ops := ops) (o := o) at_.ok
      cases hgu : guardOf ops env o with
      | go =>
        simp only [hgu] at H hg
        split at H
        case h_2 => exact H.elim
        case h_1 hck =>
          rw [Bool.and_eq_true] at hck
          obtain ⟨hkn, hd⟩ := hck
          have hm := does_meets (P := P) env.eval o
          have hex : does P env.eval o ≠ .bad → execOp a.eval o = execOp env.eval o := fun hb =>
            execOp_congr o (does_noSelect (P := P) (ρ := env.eval) (fun d hd => hd ▸ hb)) (fun x hx => Env.eval_ok at_.ok (knowsOp_spec hkn x hx))
          cases hdo : does P env.eval o with
          | quietP q =>
            rw [hdo] at H hm
            obtain ⟨v, hv, hk⟩ := hm _ _ H
            have hex' := hex (by simp [hdo])
            let s : World → Prop := fun w' => ∀ w'' : World, HExt w'.heap w''.heap → (execOp a.eval o).run P w'' = .ok (.value v) w''
            have hs1 : ∀ w' : World, q w'.heap (fun v' => v' = v) → s w' := fun w' hq w'' hx => by
              obtain ⟨v', hv', e⟩ := hm _ _ hq
              subst e
              rw [hex']
              exact hv' w'' hx
            have hs2 : ∀ w' w'' : World, HExt w'.heap w''.heap → s w' → s w'' := fun w' w'' hx hs w3 hx3 => hs w3 (hx.trans hx3)
            have hsw : s w := fun w'' hx => by rw [hex']; exact hv w'' (by rw [← at_.heap]; exact hx)
            have hS2 : Holds ((D, s) :: clearS i sk) (listedOf (m ||| 2 ^ i) N) w := fun p hp hl => by
              rcases List.mem_cons.1 hp with rfl | hp
              · exact hsw
              · have : Holds (clearS i sk) (listedOf (m ||| 2 ^ i) N) w := by rw [← listedOf_set]; exact hS.forth (unl i m hr)
                exact this p hp hl
            have hrest := (ih (m ||| 2 ^ i) _ ((D, s) :: clearS i sk) _ K h (a.put o.dst v) w false hp hk (at_.put hd (fun b hb => by cases hb) at_.heap (Same.refl w)) (.cons hs1 hs2 hd2 (r.clear i)) hS2 a0 (kput ho k0) hK g (by simp [Plan.depth] at hf; omega)).1 rfl
            rw [← listedOf_set] at hrest
            refine wpAnyG_take ho (Region.noSelect_spec hsn) (fun c a w hq => absurd hq (hQ c _ w)) ((List.range N).filter D.testBit) s (Holds sk) (Holds ((D, s) :: clearS i sk))
              (fun l w h => (show Holds (clearS i sk) l w from fun p hp => h p (List.mem_cons_of_mem _ hp)).unclear) (fun l w h => (show Holds (clearS i sk) _ w from fun p hp => h p (List.mem_cons_of_mem _ hp)).back)
              (fun j oj l a w K hoj hji hjD hun hDl hc hw => wpOpIn_mono (fun a' w' h => ⟨?_, h⟩) hw) g (listedOf m N) a w (freeB_spec hN ho hfr) hd1 (readyB_spec hN hr).1 (.inl ⟨hg, does_noDefer (P := P) (ρ := env.eval) (fun d hd => hd ▸ (by simp [hdo])), fun w' hs => hs w' (HExt.refl _)⟩) hsw hS.more hrest
            refine h.1 (D, s) List.mem_cons_self fun k hk => ?_
            have hkm : k ∈ (List.range N).filter D.testBit := List.mem_filter.2 ⟨List.mem_range.2 (hd2 k hk), hk⟩
            obtain ⟨q1, q2, q3⟩ := hDl k hkm
            rw [getD_set_ne false (Ne.symm q3), getD_set_ne false (Ne.symm q2)]
            exact unlisted q1
          | _ => rw [hdo] at H; exact H.elim
      | _ => simp only [hgu] at H
  | last i p ih =>
    intro m ck sk env K h a w b hok H at_ r hS a0 k0 hK f hf
    simp only [Plan.ok, Bool.and_eq_true] at hok
    have key : ∀ j, (Plan.last i p).covers j = true → ∃ g, f = g + 1 ∧ wpOpIn (FW rr) 0 P ops Q j (fun a' w' => Holds sk (listedOf (m ||| 2 ^ j) N) w' ∧ wpAnyG rr P ops Q (Holds sk) g (listedOf (m ||| 2 ^ j) N) a' w') a w := fun j hj => by
      obtain ⟨g, rfl⟩ : ∃ g, f = g + 1 := ⟨f - 1, by simp [Plan.depth] at hf; omega⟩
      have := Nat.eq_of_beq_eq_true hj
      subst this
      exact ⟨g, rfl, one j m ck sk env _ h a w _ r hS H at_ a0 k0 fun env' a' w' h' hk hat k hS' => ⟨hS', (ih _ _ _ env' K h' a' w' false hok.2 hk hat r hS' a0 k hK g (by simp [Plan.depth] at hf; omega)).1 rfl⟩⟩
    refine ⟨fun hb => ?_, fun j hj => key j hj⟩
    subst hb
    have hc : coversAll ops.toList N m (.last i p) = true := by simpa using hok.1.1
    have hne : Region.ready .any ops (listedOf m N) ≠ [] := fun e => by
      have := (readyB_spec hN hok.1.2).1
      rw [e] at this
      cases this
    obtain ⟨g, rfl⟩ : ∃ g, f = g + 1 := ⟨f - 1, by simp [Plan.depth] at hf; omega⟩
    exact wpAnyG_all hne fun j hj => by
      obtain ⟨g', hg', hk'⟩ := key j (coversAll_spec hN hc j hj)
      obtain rfl : g = g' := by omega
      rw [listedOf_set]
      exact hk'
  | lastA i p q ihp ihq =>
    intro m ck sk env K h a w b hok H at_ r hS a0 k0 hK f hf
    simp only [Plan.ok, Bool.and_eq_true] at hok
    have key : ∀ j, (Plan.lastA i p q).covers j = true → ∃ g, f = g + 1 ∧ wpOpIn (FW rr) 0 P ops Q j (fun a' w' => Holds sk (listedOf (m ||| 2 ^ j) N) w' ∧ wpAnyG rr P ops Q (Holds sk) g (listedOf (m ||| 2 ^ j) N) a' w') a w := fun j hj => by
      obtain ⟨g, rfl⟩ : ∃ g, f = g + 1 := ⟨f - 1, by simp [Plan.depth] at hf; omega⟩
      have hdp : p.depth ≤ g := by simp [Plan.depth] at hf; omega
      have hdq : q.depth ≤ g := by simp [Plan.depth] at hf; omega
      have := Nat.eq_of_beq_eq_true hj
      subst this
      exact ⟨g, rfl, ask j m ck sk env _ _ h a w _ r hS H at_ a0 k0 fun env' a' w' h' hk hat k hS' => by
        rcases hk with hk | hk
        · exact ⟨hS', (ihp _ _ _ env' K h' a' w' false hok.2.1 hk hat r hS' a0 k hK g hdp).1 rfl⟩
        · exact ⟨hS', (ihq _ _ _ env' K h' a' w' false hok.2.2 hk hat r hS' a0 k hK g hdq).1 rfl⟩⟩
    refine ⟨fun hb => ?_, fun j hj => key j hj⟩
    subst hb
    have hc : coversAll ops.toList N m (.lastA i p q) = true := by simpa using hok.1.1
    have hne : Region.ready .any ops (listedOf m N) ≠ [] := fun e => by
      have := (readyB_spec hN hok.1.2).1
      rw [e] at this
      cases this
    obtain ⟨g, rfl⟩ : ∃ g, f = g + 1 := ⟨f - 1, by simp [Plan.depth] at hf; omega⟩
    exact wpAnyG_all hne fun j hj => by
      obtain ⟨g', hg', hk'⟩ := key j (coversAll_spec hN hc j hj)
      obtain rfl : g = g' := by omega
      rw [listedOf_set]
      exact hk'
  | alt i p r' ihp ihr =>
    intro m ck sk env K h a w b hok H at_ r hS a0 k0 hK f hf
    simp only [Plan.ok, Bool.and_eq_true] at hok
    obtain ⟨H1, H2⟩ := H
    have key : ∀ j, (Plan.alt i p r').covers j = true → ∃ g, f = g + 1 ∧ wpOpIn (FW rr) 0 P ops Q j (fun a' w' => Holds sk (listedOf (m ||| 2 ^ j) N) w' ∧ wpAnyG rr P ops Q (Holds sk) g (listedOf (m ||| 2 ^ j) N) a' w') a w := fun j hj => by
      simp only [Plan.covers, Bool.or_eq_true] at hj
      rcases hj with hj | hj
      · obtain ⟨g, rfl⟩ : ∃ g, f = g + 1 := ⟨f - 1, by simp [Plan.depth] at hf; omega⟩
        have := Nat.eq_of_beq_eq_true hj
        subst this
        exact ⟨g, rfl, one j m ck sk env _ h a w _ r hS H1 at_ a0 k0 fun env' a' w' h' hk hat k hS' => ⟨hS', (ihp _ _ _ env' K h' a' w' false hok.2.1 hk hat r hS' a0 k hK g (by simp [Plan.depth] at hf; omega)).1 rfl⟩⟩
      · exact (ihr m ck sk env K h a w true hok.2.2 H2 at_ r hS a0 k0 hK f (by simp [Plan.depth] at hf; omega)).2 j hj
    refine ⟨fun hb => ?_, fun j hj => key j hj⟩
    subst hb
    have hc : coversAll ops.toList N m (.alt i p r') = true := by simpa using hok.1.1
    have hne : Region.ready .any ops (listedOf m N) ≠ [] := fun e => by
      have := (readyB_spec hN hok.1.2).1
      rw [e] at this
      cases this
    obtain ⟨g, rfl⟩ : ∃ g, f = g + 1 := ⟨f - 1, by simp [Plan.depth] at hf; omega⟩
    exact wpAnyG_all hne fun j hj => by
      obtain ⟨g', hg', hk'⟩ := key j (coversAll_spec hN hc j hj)
      obtain rfl : g = g' := by omega
      rw [listedOf_set]
      exact hk'
  | altA i p q r' ihp ihq ihr =>
    intro m ck sk env K h a w b hok H at_ r hS a0 k0 hK f hf
    simp only [Plan.ok, Bool.and_eq_true] at hok
    obtain ⟨H1, H2⟩ := H
    have key : ∀ j, (Plan.altA i p q r').covers j = true → ∃ g, f = g + 1 ∧ wpOpIn (FW rr) 0 P ops Q j (fun a' w' => Holds sk (listedOf (m ||| 2 ^ j) N) w' ∧ wpAnyG rr P ops Q (Holds sk) g (listedOf (m ||| 2 ^ j) N) a' w') a w := fun j hj => by
      simp only [Plan.covers, Bool.or_eq_true] at hj
      rcases hj with hj | hj
      · obtain ⟨g, rfl⟩ : ∃ g, f = g + 1 := ⟨f - 1, by simp [Plan.depth] at hf; omega⟩
        have hdp : p.depth ≤ g := by simp [Plan.depth] at hf; omega
        have hdq : q.depth ≤ g := by simp [Plan.depth] at hf; omega
        have := Nat.eq_of_beq_eq_true hj
        subst this
        exact ⟨g, rfl, ask j m ck sk env _ _ h a w _ r hS H1 at_ a0 k0 fun env' a' w' h' hk hat k hS' => by
          rcases hk with hk | hk
          · exact ⟨hS', (ihp _ _ _ env' K h' a' w' false hok.2.1.1 hk hat r hS' a0 k hK g hdp).1 rfl⟩
          · exact ⟨hS', (ihq _ _ _ env' K h' a' w' false hok.2.1.2 hk hat r hS' a0 k hK g hdq).1 rfl⟩⟩
      · exact (ihr m ck sk env K h a w true hok.2.2 H2 at_ r hS a0 k0 hK f (by simp [Plan.depth] at hf; omega)).2 j hj
    refine ⟨fun hb => ?_, fun j hj => key j hj⟩
    subst hb
    have hc : coversAll ops.toList N m (.altA i p q r') = true := by simpa using hok.1.1
    have hne : Region.ready .any ops (listedOf m N) ≠ [] := fun e => by
      have := (readyB_spec hN hok.1.2).1
      rw [e] at this
      cases this
    obtain ⟨g, rfl⟩ : ∃ g, f = g + 1 := ⟨f - 1, by simp [Plan.depth] at hf; omega⟩
    exact wpAnyG_all hne fun j hj => by
      obtain ⟨g', hg', hk'⟩ := key j (coversAll_spec hN hc j hj)
      obtain rfl : g = g' := by omega
      rw [listedOf_set]
      exact hk'

end


section
variable {P : Program}

/-- What is asked of what follows a piece of code. -/
def Then (n : Nat) (ds : List Deferred) (w0 : World) (S : List Nat) (a : Act) (K : Exit → Env → Heap → Prop) (Q : Exit → Act → World → Prop) : Prop :=
  ∀ e env' a' w' h', K e env' h' → At n ds env' w0 a' w' h' → Kept S a a' → Q e a' w'

theorem ev_sound (hm : P.follows .mixedOrders = true) {rr : Option Nat} {n : Nat} {w0 : World} : ∀ (c : Code) (A : Ann) (env : Env) (K : Exit → Env → Heap → Prop) (Q : Exit → Act → World → Prop) (h : Heap) (a : Act) (w : World),
    ev P n c A env K h → At n ds env w0 a w h → Then n ds w0 (assigned c) a K Q → c.wpIn (FW rr) 0 P Q a w := by
  intro c
  induction c with
  | skip => intro A env K Q h a w H at_ hK; exact wpIn_skip (hK _ _ _ _ _ H at_ (Kept.refl _ _))
  | label l => intro A env K Q h a w H at_ hK; exact wpIn_label (hK _ _ _ _ _ H at_ (Kept.refl _ _))
  | ret => intro A env K Q h a w H at_ hK; exact wpIn_ret (hK _ _ _ _ _ H at_ (Kept.refl _ _))
  | exit id => intro A env K Q h a w H at_ hK; exact wpIn_exit (hK _ _ _ _ _ H at_ (Kept.refl _ _))
  | goto l => intro A env K Q h a w H at_ hK; cases A <;> exact H.elim
  | refuse s => intro A env K Q h a w H at_ hK; cases A <;> exact H.elim
  | rangeFunc f ps x y _ _ => intro A env K Q h a w H at_ hK; cases A <;> exact H.elim
  | scope b _ => intro A env K Q h a w H at_ hK; cases A <;> exact H.elim
  | region id ops draw =>
    intro A env K Q h a w H at_ hK
    cases draw with
    | false =>
      have H' : evOps P n ops ops.toList env (fun env' h' => K .normal env' h') h := by cases A <;> exact H
      exact wpIn_region_list (evOps_sound ops.toList env _ h a w H' at_ (fun env' a' w' h' hk hat k => hK _ _ _ _ _ hk hat k))
    | true =>
      cases A with
      | leaf =>
        simp only [ev] at H
        split at H
        · rename_i hB
          refine wpIn_region_quiet (C := fun w' => w'.heap = h ∧ Same w0 w') hm hB ⟨at_.heap, at_.same.trans ⟨rfl, rfl, rfl⟩⟩ ?_
          exact evOpsQ_sound ops.toList env _ h a H at_.q (fun env' a' hk hat k w' hw' => hK _ _ _ _ _ hk (hat.at hw'.1 hw'.2) k)
        · exact H.elim
      | tail m =>
        simp only [ev] at H
        split at H
        · rename_i hB
          have hs : Same w { w with drawn := w.drawn + 1 } := ⟨rfl, rfl, rfl⟩
          have hB' : Region.lexTailB .any ops.toList.toArray m = true := by rw [Array.toArray_toList]; exact hB
          rw [show ops = ops.toList.toArray from (Array.toArray_toList).symm] 
          refine wpIn_region_still_tail m hm hB' ?_
          rw [Array.toArray_toList]
          have hh : ({ w with drawn := w.drawn + 1 } : World).heap = h := at_.heap
          rw [← hh] at H
          refine still_of_quiet (ops.toList.take m) env _ a H at_.q (fun env' a' hk hat k => ?_)
          refine evOps_sound (w0 := w0) (ops.toList.drop m) env' _ _ a' _ hk (hat.at rfl (at_.same.trans hs)) (fun env'' a'' w'' h'' hk' hat' k' => ?_)
          refine hK _ _ _ _ _ hk' hat' ((k.trans k').mono fun t ht => ?_)
          simp only [assigned, dsts, ← List.flatMap_append, List.take_append_drop] at ht ⊢
          exact ht
        · exact H.elim
      | any p =>
        simp only [ev] at H
        split at H
        · rename_i hck
          rw [Bool.and_eq_true, Bool.and_eq_true] at hck
          have hs : Same w { w with drawn := w.drawn + 1 } := ⟨rfl, rfl, rfl⟩
          refine wpIn_mono (Q := NoP Q) ?_ (fun e a w hq => by cases e <;> first | exact hq | exact hq.elim)
          refine wpIn_region_any hm ?_
          rw [listedOf_zero]
          have key := evPlan_sound (rr := rr) (Q := NoP Q) hck.1 (fun c a w hq => hq) rfl p 0 [] [] env _ h a { w with drawn := w.drawn + 1 } false hck.2.2 H (at_.q.at at_.heap (at_.same.trans hs)) .nil (fun p hp => by cases hp) a (Kept.refl _ _) (fun env' a' w' h' hk hat k => hK _ _ _ _ _ hk hat k) ops.size (Nat.le_of_ble_eq_true hck.2.1)
          exact wpAny_of_G _ _ _ _ (key.1 rfl)
        · exact H.elim
      | _ => exact H.elim
  | seq x y ihx ihy =>
    intro A env K Q h a w H at_ hK
    cases A with
    | seq A B =>
      simp only [ev] at H
      refine wpIn_seq (ihx A env _ _ h a w H at_ ?_)
      intro e env' a' w' h' hk hat k
      cases e with
      | normal => exact ihy B env' K Q h' a' w' hk hat (fun e env'' a'' w'' h'' hk' hat' k' => hK _ _ _ _ _ hk' hat' (k.trans k'))
      | _ => exact hK _ _ _ _ _ hk hat (k.mono fun t ht => List.mem_append_left _ ht)
    | join vars A B =>
      simp only [ev, joinW] at H
      refine wpIn_seq (ihx A env _ _ h a w H at_ ?_)
      intro e env' a' w' h' hk hat k
      cases e with
      | normal =>
        simp only [withTup] at hk
        split at hk
        · rename_i s hs
          exact ihy B _ K Q h' a' w' hk (at_.tup hat k hs) (fun e env'' a'' w'' h'' hk' hat' k' => hK _ _ _ _ _ hk' hat' (k.trans k'))
        · exact hk.elim
      | _ => exact hK _ _ _ _ _ hk hat (k.mono fun t ht => List.mem_append_left _ ht)
    | _ => exact H.elim
  | cond c x y ihx ihy =>
    intro A env K Q h a w H at_ hK
    cases A with
    | cond A B =>
      simp only [ev] at H
      have hl : Then n ds w0 (assigned x) a K Q := fun e env' a' w' h' hk hat k => hK _ _ _ _ _ hk hat (k.mono fun t ht => List.mem_append_left _ ht)
      have hr : Then n ds w0 (assigned y) a K Q := fun e env' a' w' h' hk hat k => hK _ _ _ _ _ hk hat (k.mono fun t ht => List.mem_append_right _ ht)
      split at H
      · rename_i hkn
        have hev := Env.eval_ok at_.ok hkn
        split at H
        · rename_i hf; exact wpIn_cond_true (by rw [hev]; exact Env.flag_ok at_.ok hf) (ihx A env K Q h a w H at_ hl)
        · rename_i hf; exact wpIn_cond_false (by rw [hev]; exact Env.flag_ok at_.ok hf) (ihy B env K Q h a w H at_ hr)
        · split at H
          · rename_i b hb
            cases b with
            | true => exact wpIn_cond_true (by rw [hev]; exact hb) (ihx A env K Q h a w (by simpa using H) at_ hl)
            | false => exact wpIn_cond_false (by rw [hev]; exact hb) (ihy B env K Q h a w (by simpa using H) at_ hr)
          · exact H.elim
      · exact H.elim
    | _ => exact H.elim
  | block id x ih =>
    intro A env K Q h a w H at_ hK
    cases A with
    | block A =>
      simp only [ev] at H
      refine wpIn_block (ih A env _ _ h a w H at_ ?_)
      intro e env' a' w' h' hk hat k
      cases e with
      | exit id' =>
        simp only [Exit.inBlock]
        simp only [] at hk
        split at hk
        · rename_i hid
          rw [if_pos (Nat.eq_of_beq_eq_true hid)]
          exact hK _ _ _ _ _ hk hat k
        · rename_i hid
          rw [if_neg (fun e => by subst e; simp at hid)]
          exact hK _ _ _ _ _ hk hat k
      | _ => exact hK _ _ _ _ _ hk hat k
    | _ => exact H.elim
  | loop x ih =>
    intro A env K Q h a w H at_ hK
    cases A with
    | loop vars A =>
      simp only [ev] at H
      split at H
      · rename_i s0 hs0
        have := H (fun s h' => ∀ (a' : Act) (w' : World), At n ds (Tup.env vars s ++ env.without (assigned x)) w0 a' w' h' → Kept (assigned x) a a' → LoopIn rr P x Q a' w' ∧ (Code.loop x).wpIn (FW rr) 0 P Q a' w') ?_ a w
          (at_.tup at_ (Kept.refl _ _) hs0) (Kept.refl _ _)
        · exact this.2
        · intro s h' hF a' w' hat k
          refine loopIn_round (ih A _ _ _ h' a' w' hF hat ?_)
          intro e env' a'' w'' h'' hk hat' k'
          have hkk : Kept (assigned x) a a'' := (k.trans k').mono fun t ht => by simpa using ht
          cases e with
          | normal =>
            simp only [withTup] at hk
            split at hk
            · rename_i s' hs'
              exact (hk a'' w'' (at_.tup hat' hkk hs') hkk).1
            · exact hk.elim
          | _ => exact hK _ _ _ _ _ hk hat' hkk
      · exact H.elim
    | _ => exact H.elim

/-! ### A function -/

def tupleOf : List Value → Value
  | [v] => v
  | vs => .tuple ⟨vs⟩

def retW (P : Program) (env : Env) : List ResultVar → (List Value → Prop) → Heap → Prop
  | [], K, _ => K []
  | .tmp t :: r, K, h => match env.get t with
    | some e => retW P env r (fun vs => K (e.v :: vs)) h
    | none => False
  | .cell t ty :: r, K, h => match env.get t with
    | some e => quietK P (kindOf P ty) (Instr.loadAt ty e.v) (fun x => retW P env r (fun vs => K ((kindOf P ty).inj x :: vs)) h) h
    | none => False

def argEnv : Nat → List Value → Env
  | _, [] => []
  | i, v :: r => (i, ⟨v, none⟩) :: argEnv (i + 1) r

def evFn (P : Program) (fn : Func) (A : Ann) (args : List Value) (R : Value → Heap → Prop) (h : Heap) : Prop :=
  match fn.body with
  | some c => match Nat.ble args.length fn.ntmps with
    | true => ev P fn.ntmps c A (argEnv 0 args) (fun e env' h' => match e with
      | .normal | .ret => retW P env' fn.results.toList (fun vs => R (tupleOf vs) h') h'
      | _ => False) h
    | false => False
  | none => False

theorem argEnv_get : ∀ (l : List Value) (i t : Nat), (argEnv i l).get t = if i ≤ t then (l[t - i]?).map (fun v => ⟨v, none⟩) else none
  | [], i, t => by simp [argEnv, Env.get]
  | v :: r, i, t => by
    rw [argEnv, Env.get_cons]
    by_cases h : i = t
    · subst h; simp
    · rw [if_neg h, argEnv_get r (i + 1) t]
      by_cases h1 : i + 1 ≤ t
      · rw [if_pos h1, if_pos (by omega)]
        have : t - i = (t - (i + 1)) + 1 := by omega
        rw [this]; simp
      · rw [if_neg h1, if_neg (by omega)]

theorem loadAt_run {t : TypeId} {v x : Value} {w : World} (h : (Instr.loadAt t v).run P w = .ok x w) : (do loadVar t (← asAddr v) : Sem Value).run P w = .ok x w := by
  unfold Instr.loadAt at h
  cases v with
  | pointer a =>
    cases a with
    | none => simp [Instr.sureAddr, stuck] at h
    | some a => simpa [Instr.sureAddr, asAddr] using h
  | _ => simp [Instr.sureAddr, stuck] at h

def resOne (tmps : Array Value) : ResultVar → Sem Value
  | .tmp t => Pure.pure (tmps.getD t undef)
  | .cell b t => do loadVar t (← asAddr (tmps.getD b undef))

theorem results_eq (fn : Func) (tmps : Array Value) : results fn tmps = (do let vs ← fn.results.mapM (resOne tmps); Pure.pure (if h : vs.size = 1 then vs[0] else .tuple vs) : Sem Value) := by
  unfold results
  exact congrArg (fun g => (do let vs ← fn.results.mapM g; Pure.pure (if h : vs.size = 1 then vs[0] else .tuple vs) : Sem Value)) (funext fun x => by cases x <;> rfl)

theorem retW_sound {env : Env} {a : Act} {w : World} (ok : env.ok a.tmps) : ∀ (rs : List ResultVar) (K : List Value → Prop), retW P env rs K w.heap →
    ∃ vs, (rs.mapM (resOne a.tmps)).run P w = .ok vs w ∧ K vs
  | [], K, H => ⟨[], by simp, H⟩
  | .tmp t :: r, K, H => by
    simp only [retW] at H
    split at H
    · rename_i e he
      obtain ⟨vs, hv, hk⟩ := retW_sound ok r _ H
      refine ⟨_, ?_, hk⟩
      have h1 : (resOne a.tmps (.tmp t)).run P w = .ok e.v w := by
        simp [resOne, (ok t e he).1]
      rw [List.mapM_cons, Sem.run_bind, h1, Result.andThen_ok, Sem.run_bind, hv]
      rfl
    · exact H.elim
  | .cell t ty :: r, K, H => by
    simp only [retW] at H
    split at H
    · rename_i e he
      obtain ⟨x, hx, hk⟩ := H
      obtain ⟨vs, hv, hk⟩ := retW_sound ok r _ hk
      refine ⟨_, ?_, hk⟩
      have ht : a.tmps.getD t undef = e.v := by simp [(ok t e he).1]
      have h1 : (resOne a.tmps (.cell t ty)).run P w = .ok ((kindOf P ty).inj x) w := by
        unfold resOne
        simp only [ht]
        exact loadAt_run (hx w rfl)
      rw [List.mapM_cons, Sem.run_bind, h1, Result.andThen_ok, Sem.run_bind, hv]
      rfl
    · exact H.elim

theorem tupleOf_eq (vs : Array Value) : tupleOf vs.toList = if h : vs.size = 1 then vs[0] else .tuple vs := by
  obtain ⟨l⟩ := vs
  cases l with
  | nil => rfl
  | cons x l => cases l <;> simp [tupleOf]

theorem evFn_sound (hm : P.follows .mixedOrders = true) {f : FuncId} {fn : Func} {A : Ann} {args : List Value} {R : Value → Heap → Prop} {h : Heap}
    (hf : P.funcs[f]? = some fn) (hn : (fn.name == "runtime.NumGoroutine") = false) (H : evFn P fn A args R h) : HC P f ⟨args⟩ R h := by
  unfold evFn at H
  split at H
  case h_2 => exact H.elim
  case h_1 c hb =>
    split at H
    case h_2 => exact H.elim
    case h_1 hlen =>
      have hlen' : args.length ≤ fn.ntmps := Nat.le_of_ble_eq_true hlen
      have hn' : ¬ fn.name = "runtime.NumGoroutine" := by simpa using hn
      refine ⟨fun w => by simp [callFunc, program, Sem.run, hf, hn', hb], fun w hw => ?_⟩
      refine calls_of_wp hf hb ((wpIn_wide (n := 0)).1 ?_)
      refine ev_sound hm (rr := none) (ds := []) (w0 := w) c A (argEnv 0 args) _ _ h _ w H ⟨by simp; omega, ?_, rfl, hw, Same.refl w⟩ ?_
      · intro t e he
        rw [argEnv_get] at he
        simp only [Nat.zero_le, if_true, Nat.sub_zero] at he
        cases hg : args[t]? with
        | none => rw [hg] at he; cases he
        | some v =>
          rw [hg] at he
          injection he with he; subst he
          have hlt : t < args.length := (List.getElem?_eq_some_iff.1 hg).1
          refine ⟨?_, fun b hb => by cases hb⟩
          rw [Array.getElem?_append_left (by simpa using hlt)]
          simpa using hg
      · intro e env' a' w' h' hk hat k
        have key : retW P env' fn.results.toList (fun vs => R (tupleOf vs) h') h' →
            a'.defers = [] ∧ ∃ v, (results fn a'.tmps).run P w' = .ok v w' ∧ ∃ v', Ending.returned v = .returned v' ∧ Same w w' ∧ R v' w'.heap := by
          intro hk
          rw [← hat.heap] at hk
          obtain ⟨vs, hv, hr⟩ := retW_sound hat.ok _ _ hk
          refine ⟨hat.defers, tupleOf vs, ?_, tupleOf vs, rfl, hat.same, hr⟩
          rw [results_eq, Array.mapM_eq_mapM_toList]
          simp only [Sem.run_bind, Sem.run_map, hv, Result.andThen_ok, Sem.run_pure]
          rw [← tupleOf_eq]
        cases e with
        | normal => exact key hk
        | ret => exact key hk
        | _ => exact hk.elim

/-! ### A range over a function -/

/-- What is said beside a function's code that holds a range over a function. -/
inductive AnnR where
  | plain (A : Ann)
  | seq (a b : AnnR)
  | block (a : AnnR)
  | rf (vars : List (Nat × Kd)) (A B : Ann)

end
end Go.Ev
