/- THE ENGINE, part 1: partial heaps, contracts, symbolic values, and the verification conditions of Go code as a function into Prop. -/
import Derived.WalkKit
import Derived.KernelRfl
import Derived.Deep.LoopGhost
import Derived.RangeFuncRecord
namespace Go.Proofs.YtlmnfhhmgfnbpaaDoor.E
open Go

/-! ### Partial heaps and contracts -/
abbrev PH := Nat → Option Obj
def Sub (u : PH) (w : World) : Prop := ∀ b o, u b = some o → w.heap[b]? = some o
structure Fr (u : PH) (w : World) (u' : PH) (w' : World) : Prop where
  os : w'.os = w.os
  tape : w'.tape = w.tape
  output : w'.output = w.output
  size : w.heap.size ≤ w'.heap.size
  keep : ∀ b, b < w.heap.size → u b = none → w'.heap[b]? = w.heap[b]? ∧ u' b = none
def Spec (P : Program) (f : FuncId) (args : Array Value) (u : PH) (Q : Value → PH → Prop) : Prop :=
  ∀ w, Sub u w → Calls P f args w fun e w' => ∃ v u', e = .returned v ∧ Sub u' w' ∧ Fr u w u' w' ∧ Q v u'
def SemSpec (P : Program) (s : Sem Value) (u : PH) (Q : Value → PH → Prop) : Prop :=
  ∀ w, Sub u w → ∃ v w' u', s.run P w = .ok v w' ∧ Sub u' w' ∧ Fr u w u' w' ∧ Q v u'
/-- a call of yield: one round of the loop l -/
def YieldV (P : Program) (l : Nat) (args : List Value) (u : PH) (Q : Value → PH → Prop) : Prop :=
  ∀ w, Sub u w → ∃ r : Loop, w.heap[l]? = some (.loop r) ∧ args.toArray.size = r.params.size ∧
    RoundIn Fence.wide 0 P l r.fn ((r.params.zip args.toArray).foldl (fun tmps (t, a) => tmps.setIfInBounds t a) r.tmps) r.assign r.body w fun e w' => ∃ v u', e = .returned v ∧ Sub u' w' ∧ Fr u w u' w' ∧ Q v u'
def PH.cell (u : PH) (b o : Nat) : Option Value :=
  match u b with
  | some (.cells c _ _) => c[o]?
  | _ => none
def PH.cells (u : PH) (b o : Nat) (xs : List Value) : Prop := ∀ j y, xs[j]? = some y → PH.cell u b (o + j) = some y
def PH.add (u : PH) (b : Nat) (o : Obj) : PH := fun k => if k = b then some o else u k
/-- n cells from (b, o) on are there, and none of them is frozen -/
def PH.free (u : PH) (b o n : Nat) : Prop := ∃ c t lo hi, u b = some (.cells c t (lo, hi)) ∧ o + n ≤ c.size ∧ (∀ j, j < n → ¬ (lo ≤ o + j ∧ o + j < hi))
def PH.del (u : PH) (b : Nat) : PH := fun k => if k = b then none else u k
def setAll (c : Array Value) (o : Nat) : List Value → Array Value
  | [] => c
  | v :: r => setAll (c.setIfInBounds o v) (o + 1) r
def PH.write (u : PH) (b o : Nat) (vs : List Value) : PH := fun k =>
  if k = b then (match u b with | some (.cells c t fr) => some (.cells (setAll c o vs) t fr) | x => x) else u k
def Ext (u u' : PH) : Prop := ∀ b o, u b = some o → u' b = some o

/-! ### Symbolic values -/
inductive Atom where
  | v (x : Value)
  | ptr (b off : Nat)
  | own (k off : Nat)
def notAgg : Value → Bool
  | .agg _ => false
  | .tuple _ => false
  | _ => true
inductive Cell where
  | undef
  | v (x : Value)
  | vv (x : { x : Value // notAgg x = true })
  | lit (b : Bool)
  | ptr (b off : Nat)
  | own (k off : Nat)
  | fn (f : FuncId) (caps : List Atom)
inductive Part where
  | c (x : Cell)
  | agg (xs : List Cell)
inductive SV where
  | p (x : Part)
  | tup (xs : List Part)
inductive Entry where
  | ok (x : SV)
  | grd (s : Nat) (want : Bool) (x : SV)
  | any
structure OB where
  ty : TypeId
  cells : List Cell
structure St where
  slots : List (Nat × Entry)
  own : List (Nat × OB)
  next : Nat
  dirty : List Nat
  n : Nat

def Atom.toV (ν : Nat → Nat) : Atom → Value
  | .v x => x
  | .ptr b o => .pointer (some ⟨b, o, none⟩)
  | .own k o => .pointer (some ⟨ν k, o, none⟩)
def Cell.toV (ν : Nat → Nat) : Cell → Value
  | .undef => Go.undef
  | .v x => x
  | .vv x => x.1
  | .lit b => .bool b
  | .ptr b o => .pointer (some ⟨b, o, none⟩)
  | .own k o => .pointer (some ⟨ν k, o, none⟩)
  | .fn f caps => .func (.func f) #[] (caps.map (Atom.toV ν)).toArray
def Part.toV (ν : Nat → Nat) : Part → Value
  | .c x => x.toV ν
  | .agg xs => .agg (xs.map (Cell.toV ν)).toArray
def SV.toV (ν : Nat → Nat) : SV → Value
  | .p x => x.toV ν
  | .tup xs => .tuple (xs.map (Part.toV ν)).toArray
def Part.cells : Part → List Cell
  | .c x => [x]
  | .agg xs => xs
/-- what is known when nothing of one's own is left in it -/
def Cell.out : Cell → Value := Cell.toV (fun k => k)
def Part.out : Part → Value := Part.toV (fun k => k)

def Atom.refs : Atom → List Nat
  | .own k _ => [k]
  | _ => []
/-- the blocks of one's own that are named (their numbers begin at 1); 0: an aggregate, which no cell holds -/
def Cell.refs : Cell → List Nat
  | .own k _ => [k]
  | .v (.agg _) => [0]
  | .v (.tuple _) => [0]
  | .fn _ caps => caps.flatMap Atom.refs
  | _ => []
def Part.refs (p : Part) : List Nat := p.cells.flatMap Cell.refs
def SV.refs : SV → List Nat
  | .p x => x.refs
  | .tup xs => xs.flatMap Part.refs
def Entry.refs : Entry → List Nat
  | .ok x => x.refs
  | .grd _ _ x => x.refs
  | .any => []

def Atom.pub (k b : Nat) : Atom → Atom
  | .own j o => if j = k then .ptr b o else .own j o
  | a => a
def Cell.pub (k b : Nat) : Cell → Cell
  | .own j o => if j = k then .ptr b o else .own j o
  | .fn f caps => .fn f (caps.map (Atom.pub k b))
  | a => a
def Part.pub (k b : Nat) : Part → Part
  | .c x => .c (x.pub k b)
  | .agg xs => .agg (xs.map (Cell.pub k b))
def SV.pub (k b : Nat) : SV → SV
  | .p x => .p (x.pub k b)
  | .tup xs => .tup (xs.map (Part.pub k b))
def Entry.pub (k b : Nat) : Entry → Entry
  | .ok x => .ok (x.pub k b)
  | .grd s w x => .grd s w (x.pub k b)
  | .any => .any

def hasN : List Nat → Nat → Bool
  | [], _ => false
  | x :: r, y => x == y || hasN r y
def look {α : Type} : List (Nat × α) → Nat → Option α
  | [], _ => none
  | (k, e) :: r, i => if k = i then some e else look r i
/-- slot i, guarded by slot s, that was not written since -/
def lookG : List (Nat × Entry) → Nat → Nat → Option (Bool × SV)
  | [], _, _ => none
  | (k, e) :: r, i, s => if k = i then (match e with | .grd s' w x => if s' = s then some (w, x) else none | _ => none) else if k = s then none else lookG r i s

def St.put (st : St) (d : Option Tmp) (x : SV) : St :=
  match d with
  | none => st
  | some d => if d < st.n then { st with slots := (d, .ok x) :: st.slots } else st
def St.putG (st : St) (d : Option Tmp) (s : Nat) (w : Bool) (x : SV) : St :=
  match d with
  | none => st
  | some d => if d < st.n then { st with slots := (d, .grd s w x) :: st.slots } else st
def St.pub (st : St) (k b : Nat) : St :=
  { st with
    slots := st.slots.map fun (i, e) => (i, e.pub k b)
    own := (st.own.filter fun (j, _) => j != k).map fun (j, ob) => (j, { ob with cells := ob.cells.map (Cell.pub k b) }) }
def undefC : Cell := .undef
/-- slot s holds b: guarded entries of it are opened, or undefined -/
def openG (slots : List (Nat × Entry)) (s : Nat) (b : Bool) (x : Nat × Entry) : Nat × Entry :=
  match lookG slots x.1 s with
  | some (w, v) => if w = b then (x.1, .ok v) else (x.1, .ok (.p (.c undefC)))
  | none => x
def St.assume (st : St) (s : Nat) (b : Bool) : St :=
  { st with slots := (s, .ok (.p (.c (.lit b)))) :: (st.slots.map (openG st.slots s b)) }

/-! ### Operands -/
def constCell : Value → Option Cell
  | .bool true => some (.lit true)
  | .bool false => some (.lit false)
  | .agg _ => none
  | .tuple _ => none
  | x => some (.v x)
abbrev Ctx := List (Nat × Bool)
def Ctx.has : Ctx → Nat → Bool → Bool
  | [], _, _ => false
  | (s, w) :: r, s', w' => (s == s' && w == w') || Ctx.has r s' w'
def St.sv (st : St) (g : Ctx) : Operand → Option SV
  | .tmp t => match look st.slots t with
    | some (.ok x) => some x
    | some (.grd s w x) => if g.has s w && (lookG st.slots t s).isSome then some x else none
    | _ => none
  | .const (.agg cs) => (cs.toList.mapM constCell).map fun l => .p (.agg l)
  | .const v => (constCell v).map fun c => .p (.c c)
  | .func f => some (.p (.c (.fn f [])))
  | .global g => some (.p (.c (.ptr g 0)))
def St.part (st : St) (g : Ctx) (x : Operand) : Option Part :=
  match st.sv g x with
  | some (.p p) => some p
  | _ => none
def St.cell (st : St) (g : Ctx) (x : Operand) : Option Cell :=
  match st.sv g x with
  | some (.p (.c c)) => some c
  | _ => none
def St.parts (st : St) (g : Ctx) : List Operand → Option (List Part)
  | [] => some []
  | x :: r => match st.part g x, st.parts g r with
    | some p, some ps => some (p :: ps)
    | _, _ => none
/-- the guards that slot s hangs on, if it holds w -/
def St.chain (st : St) : Nat → Nat → Bool → Ctx
  | 0, _, _ => []
  | n + 1, s, w => (s, w) :: (match look st.slots s with
    | some (.grd s' w' _) => if (lookG st.slots s s').isSome then st.chain n s' w' else []
    | _ => [])

/-! ### Types -/
inductive Sh where
  | int (k : IntKind)
  | bool
  | str
  | ptr
  | slice
  | val
inductive PSh where
  | c (s : Sh)
  | agg (l : List Sh)
def shs (P : Program) : Nat → TypeId → Option PSh
  | 0, _ => none
  | n + 1, t => match P.underlying t with
    | some (.int k) => some (.c (.int k))
    | some .bool => some (.c .bool)
    | some .string => some (.c .str)
    | some (.pointer _) => some (.c .ptr)
    | some (.slice _) => some (.c .slice)
    | some (.func ..) => some (.c .val)
    | some (.interface _) => some (.c .val)
    | some (.struct fs) => (fs.toList.mapM fun f => (shs P n f.type).map fun | .c s => [s] | .agg l => l).map fun ls => .agg ls.flatten
    | some (.array k e) => (shs P n e).map fun | .c s => .agg (List.replicate k s) | .agg l => .agg (List.replicate k l).flatten
    | _ => none
def shOf (P : Program) (t : TypeId) : Option PSh := shs P 8 t
def PSh.size : PSh → Nat
  | .c _ => 1
  | .agg l => l.length
def exSh : Sh → (Cell → Prop) → Prop
  | .int k, K => ∃ n : Int, K (.v (.int k n))
  | .bool, K => ∃ b : Bool, K (.v (.bool b))
  | .str, K => ∃ s : ByteArray, K (.v (.string s))
  | .ptr, K => ∃ p : Option Addr, K (.v (.pointer p))
  | .slice, K => ∃ (a : Option Addr) (l c : Nat), K (.v (.slice a l c))
  | .val, K => ∃ (x : Value) (h : notAgg x = true), K (.vv ⟨x, h⟩)
def exShs : List Sh → (List Cell → Prop) → Prop
  | [], K => K []
  | s :: r, K => exSh s fun c => exShs r fun cs => K (c :: cs)
def exP : PSh → (Part → Prop) → Prop
  | .c s, K => exSh s fun c => K (.c c)
  | .agg l, K => exShs l fun cs => K (.agg cs)
def exPs : List PSh → (List Part → Prop) → Prop
  | [], K => K []
  | s :: r, K => exP s fun c => exPs r fun cs => K (c :: cs)
/-- the cells of a type's zero value -/
def zeroCells (P : Program) (t : TypeId) : Option (List Cell) :=
  match (P.info? t).bind (·.zero) with
  | some (.agg cs) => cs.toList.mapM constCell
  | some v => (constCell v).map fun c => [c]
  | none => none
def isAggB (P : Program) (t : TypeId) : Option Bool :=
  match P.underlying t with
  | some (.struct _) => some true
  | some (.array ..) => some true
  | some _ => some false
  | none => none
def fieldOf (P : Program) (t : TypeId) (f : Nat) : Option (Nat × TypeId) :=
  match P.underlying t with
  | some (.struct fs) => (fs[f]?).map fun x => (x.offset, x.type)
  | _ => none
/-- cells from off on, as a value of type t -/
def takePart (P : Program) (t : TypeId) (cs : List Cell) (off : Nat) : Option Part :=
  match isAggB P t with
  | some true => if off + P.cellsOf t ≤ cs.length then some (.agg ((cs.drop off).take (P.cellsOf t))) else none
  | some false => (cs[off]?).map .c
  | none => none
def setCells (cs : List Cell) (off : Nat) : List Cell → List Cell
  | [] => cs
  | c :: r => setCells (cs.set off c) (off + 1) r
end Go.Proofs.YtlmnfhhmgfnbpaaDoor.E
