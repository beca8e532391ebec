/- THE ENGINE, part 3: the verification conditions of code and of a function. -/
import Derived.Test.YtlmnfhhmgfnbpaaDoorE1d
namespace Go.Proofs.YtlmnfhhmgfnbpaaDoor.E
open Go

/-! ### What is told of a loop's head, or of a place where ways meet -/
structure Hint where
  slots : List (Nat × Sh)
  owns : List (Nat × List Sh)
  pubs : List Nat
structure Hints where
  loops : List (Nat × Hint)
  joins : List (Nat × Hint)
def Hint.shs (h : Hint) : List Sh := h.slots.map (·.2) ++ h.owns.flatMap (·.2)

def ShFn (R : Type) : List Sh → Type
  | [] => R
  | .int _ :: r => Int → ShFn R r
  | .bool :: r => Bool → ShFn R r
  | .str :: r => ByteArray → ShFn R r
  | .ptr :: r => Option Addr → ShFn R r
  | .slice :: r => Option Addr → Nat → Nat → ShFn R r
  | .val :: r => Value → ShFn R r
/-- I at these cells, told to K -/
def apSh {R : Type} : (l : List Sh) → ShFn R l → List Cell → (R → Prop) → Prop
  | [], I, [], K => K I
  | .int k :: r, I, .v (.int k' n) :: cs, K => if k' = k then apSh r (I n) cs K else False
  | .bool :: r, I, .lit b :: cs, K => apSh r (I b) cs K
  | .bool :: r, I, .v (.bool b) :: cs, K => apSh r (I b) cs K
  | .str :: r, I, .v (.string s) :: cs, K => apSh r (I s) cs K
  | .ptr :: r, I, .ptr b o :: cs, K => apSh r (I (some ⟨b, o, none⟩)) cs K
  | .ptr :: r, I, .v (.pointer p) :: cs, K => apSh r (I p) cs K
  | .slice :: r, I, .v (.slice a n c) :: cs, K => apSh r (I a n c) cs K
  | .val :: r, I, .vv x :: cs, K => apSh r (I x.1) cs K
  | .val :: r, I, .fn f caps :: cs, K => if (caps.flatMap Atom.refs).isEmpty = true then apSh r (I (Cell.fn f caps).out) cs K else False
  | _, _, _, _ => False
/-- for all cells of these shapes -/
def allSh {R : Type} : (l : List Sh) → ShFn R l → (List Cell → R → Prop) → Prop
  | [], I, K => K [] I
  | .int k :: r, I, K => ∀ n : Int, allSh r (I n) fun cs => K (.v (.int k n) :: cs)
  | .bool :: r, I, K => ∀ b : Bool, allSh r (I b) fun cs => K (.v (.bool b) :: cs)
  | .str :: r, I, K => ∀ s : ByteArray, allSh r (I s) fun cs => K (.v (.string s) :: cs)
  | .ptr :: r, I, K => ∀ p : Option Addr, allSh r (I p) fun cs => K (.v (.pointer p) :: cs)
  | .slice :: r, I, K => ∀ (a : Option Addr) (n c : Nat), allSh r (I a n c) fun cs => K (.v (.slice a n c) :: cs)
  | .val :: r, I, K => ∀ (x : Value) (h : notAgg x = true), allSh r (I x) fun cs => K (.vv ⟨x, h⟩ :: cs)

def dsts (ops : Array Oper) : List Nat := ops.toList.filterMap (·.dst)
def writes : Code → List Nat
  | .region _ ops _ => dsts ops
  | .seq a b => writes a ++ writes b
  | .cond _ a b => writes a ++ writes b
  | .block _ c => writes c
  | .loop c => writes c
  | _ => []
def firstId : Code → Nat
  | .region id _ _ => id
  | .seq a _ => firstId a
  | .block _ c => firstId c
  | .loop c => firstId c
  | _ => 0
/-- the cells that a hint's slots and blocks hold -/
def slotCells (st : St) : List (Nat × Sh) → Option (List Cell)
  | [] => some []
  | (i, _) :: r => match look st.slots i, slotCells st r with
    | some (.ok (.p (.c c))), some cs => some (c :: cs)
    | _, _ => none
def ownCells (st : St) : List (Nat × List Sh) → Option (List Cell)
  | [] => some []
  | (k, l) :: r => match look st.own k, ownCells st r with
    | some ob, some cs => if ob.cells.length = l.length then some (ob.cells ++ cs) else none
    | _, _ => none
def Hint.cells (h : Hint) (st : St) : Option (List Cell) :=
  match slotCells st h.slots, ownCells st h.owns with
  | some a, some b => some (a ++ b)
  | _, _ => none
def putSlots : List (Nat × Sh) → List Cell → List (Nat × Entry) → List (Nat × Entry)
  | (i, _) :: r, c :: cs, l => (i, .ok (.p (.c c))) :: putSlots r cs l
  | _, _, l => l
def putOwns (own : List (Nat × OB)) : List (Nat × List Sh) → List Cell → List (Nat × OB)
  | [], _ => own
  | (k, l) :: r, cs => match look own k with
    | some ob => (k, { ob with cells := cs.take l.length }) :: putOwns own r (cs.drop l.length)
    | none => putOwns own r (cs.drop l.length)
def Entry.shut : Entry → Entry
  | .ok x => .ok x
  | _ => .any
/-- the state at the head: what may have been written is forgotten, but for the hint's -/
def Hint.head (h : Hint) (wr : List Nat) (st : St) (cs : List Cell) : St :=
  { st with
    slots := putSlots h.slots cs ((st.slots.filter fun x => !hasN wr x.1).map fun x => (x.1, x.2.shut))
    own := putOwns st.own h.owns (cs.drop h.slots.length)
    dirty := [] }
/-- does a state behind a round fit the head again? -/
def Hint.fits (h : Hint) (hd st : St) : Bool :=
  (hd.own.all fun (k, ob) => match look st.own k with
    | some ob' => ob'.ty == ob.ty
    | none => false) &&
  st.dirty.all fun k => hasN (h.owns.map (·.1)) k || Nat.ble hd.next k
def lookH : List (Nat × Hint) → Nat → Option Hint := look

/-- by which jumps code may be left -/
def exitsOf : Code → List Nat
  | .exit id => [id]
  | .seq a b => exitsOf a ++ exitsOf b
  | .cond _ a b => exitsOf a ++ exitsOf b
  | .block id c => (exitsOf c).filter fun i => i != id
  | .loop c => exitsOf c
  | .rangeFunc _ _ _ b => exitsOf b
  | _ => []
def hasRet : Code → Bool
  | .ret => true
  | .seq a b => hasRet a || hasRet b
  | .cond _ a b => hasRet a || hasRet b
  | .block _ c => hasRet c
  | .loop c => hasRet c
  | .rangeFunc _ _ _ b => hasRet b
  | _ => false
def nubN : List Nat → List Nat
  | [] => []
  | x :: r => if hasN (nubN r) x then nubN r else x :: nubN r
def leaves (c : Code) : List Exit := .normal :: ((if hasRet c then [.ret] else []) ++ (nubN (exitsOf c)).map .exit)
def disjL : List Exit → (Exit → Prop) → Prop
  | [], _ => False
  | [e], f => f e
  | e :: r, f => f e ∨ disjL r f
def outO (o0 or : Obj) (oe : Nat → Obj) : Exit → Obj
  | .ret => or
  | .exit id => oe id
  | _ => o0
/-- of what type a round's parameter is, by its use in the assignment -/
def parTy (p : Nat) : Code → Option TypeId
  | .region _ ops _ => ops.toList.findSome? fun o => match o.op with
    | .assign (.tmp t) => if t = p then some o.type else none
    | .move (.tmp t) => if t = p then some o.type else none
    | .store ty _ (.tmp t) => if t = p then some ty else none
    | .box ty (.tmp t) => if t = p then some ty else none
    | _ => none
  | .seq a b => match parTy p a with
    | some t => some t
    | none => parTy p b
  | _ => none
def parShs (P : Program) (assign : Code) : List Nat → Option (List (Option PSh))
  | [] => some []
  | p :: r => match parTy p assign, parShs P assign r with
    | some t, some l => (shOf P t).map fun s => some s :: l
    | none, some l => some (none :: l)
    | _, none => none
def allV : Nat → (List Value → Prop) → Prop
  | 0, K => K []
  | n + 1, K => ∀ x : Value, allV n fun xs => K (x :: xs)
def exPars : List (Option PSh) → List Value → (List (Option Part) → Prop) → Prop
  | [], [], K => K []
  | some s :: r, v :: vs, K => exP s fun p => v = p.out ∧ exPars r vs fun ps => K (some p :: ps)
  | none :: r, _ :: vs, K => exPars r vs fun ps => K (none :: ps)
  | _, _, _ => False
def St.putE (st : St) (d : Nat) (x : Option Part) : St :=
  match x with
  | some p => st.put (some d) (.p p)
  | none => if d < st.n then { st with slots := (d, .any) :: st.slots } else st
def parSlots : List Nat → List (Option Part) → St → St
  | p :: r, x :: xs, st => parSlots r xs (st.putE p x)
  | _, _, st => st
/-- the loop that is around is there -/
def aroundOk (ro : Option (Nat × Obj)) (u : PH) : Prop :=
  match ro with
  | some (l, o) => u l = some o
  | none => True
def codeVC (P : Program) (H : Hints) : Option (Nat × Obj) → Code → St → PH → (Exit → St → PH → Prop) → Prop
  | ro, .skip, st, u, Q => Q .normal st u
  | ro, .region _ ops false, st, u, Q => opsVC P ops.toList ops.toList st u (Q .normal)
  | ro, .region _ ops true, st, u, Q => drawTop P ops st u (Q .normal)
  | ro, .seq a b, st, u, Q =>
    match look H.joins (firstId b) with
    | none => codeVC P H ro a st u fun e st u => match e with
      | .normal => codeVC P H ro b st u Q
      | e => Q e st u
    | some h => ∃ I : ShFn (PH → Prop) h.shs,
        (codeVC P H ro a { st with dirty := [] } u fun e st' u' => match e with
          | .normal => match h.fits st st', h.cells st' with
            | true, some cs => apSh h.shs I cs fun R => R u'
            | _, _ => False
          | e => Q e { st' with dirty := st'.dirty ++ st.dirty } u') ∧
        allSh h.shs I fun cs R => ∀ u', R u' → codeVC P H ro b (h.head (writes a) st cs) u' fun e st' u'' => Q e { st' with dirty := st'.dirty ++ (h.owns.map (·.1) ++ st.dirty) } u''
  | ro, .cond c a b, st, u, Q => match st.cell [] c with
    | some (.lit true) => codeVC P H ro a st u Q
    | some (.lit false) => codeVC P H ro b st u Q
    | some (.v (.bool t)) => match slotOf c with
      | some s => (t = true → codeVC P H ro a (st.assume s true) u Q) ∧ (t = false → codeVC P H ro b (st.assume s false) u Q)
      | none => False
    | _ => False
  | ro, .block id c, st, u, Q => codeVC P H ro c st u fun e st u => match e with
    | .exit i => if i = id then Q .normal st u else Q (.exit i) st u
    | e => Q e st u
  | ro, .loop c, st, u, Q => match look H.loops (firstId c) with
    | none => False
    | some h => vcPub pubFuel h.pubs st u fun st u =>
      ∃ (I : ShFn (PH → Prop) h.shs) (μ : ShFn (PH → Nat) h.shs),
        (match h.cells st with
          | some cs => apSh h.shs I cs fun R => R u
          | none => False) ∧
        allSh h.shs μ fun cs m => apSh h.shs I cs fun R => ∀ u', R u' →
          codeVC P H ro c (h.head (writes c) st cs) u' fun e st' u'' => match e with
            | .normal => match h.fits (h.head (writes c) st cs) st', h.cells st' with
              | true, some cs' => apSh h.shs I cs' fun R' => apSh h.shs μ cs' fun m' => R' u'' ∧ m' u'' < m u'
              | _, _ => False
            | e => Q e { st' with dirty := st'.dirty ++ (h.owns.map (·.1) ++ st.dirty) } u''
  | ro, .exit id, st, u, Q => Q (.exit id) st u
  | ro, .ret, st, u, Q => Q .ret st u
  | ro, .rangeFunc g ps assign body, st, u, Q =>
    vcPub pubFuel (st.own.map (·.1)) st u fun st u =>
    match st.cell [] g, parShs P assign ps.toList with
    | some gc, some shs => if gc.refs.isEmpty = true ∧ shs.length = ps.size then
        aroundOk ro u ∧
        ∀ (l : Nat) (o0 o1 or : Obj) (oe : Nat → Obj), u l = none →
        (allV ps.size fun args => ∀ (u' : PH) (R : Value → PH → Prop),
          (u' l = some o0 ∧ exPars shs args fun xs =>
            codeVC P H (some (l, o0)) assign (parSlots ps.toList xs { st with own := [] }) u' fun e st1 u1 => match e with
              | .normal => u1 l = some o0 ∧ codeVC P H (some (l, o1)) body st1 (PH.add u1 l o1) fun e _ u2 => match e with
                | .normal => u2 l = some o1 ∧ R (.bool true) (PH.add u2 l o0)
                | .ret => u2 l = some o1 ∧ R (.bool false) (PH.add u2 l or)
                | .exit id => u2 l = some o1 ∧ R (.bool false) (PH.add u2 l (oe id))
                | _ => False
              | _ => False) →
          CallV P (.func (.yield l) #[] #[]) args u' R) →
        CallF P gc.out [.func (.yield l) #[] #[]] (PH.add u l o0) fun _ u' =>
          disjL (leaves body) fun e => u' l = some (outO o0 or oe e) ∧ Q e { st with own := [] } (PH.del u' l)
      else False
    | _, _ => False
  | _, _, _, _, _ => False

/-! ### A function -/
def resRefs (st : St) (rs : List ResultVar) : List Nat := rs.flatMap fun
  | .tmp t => (match st.part [] (.tmp t) with | some p => p.refs | none => [])
  | .cell a _ => (match st.cell [] (.tmp a) with
    | some (.own k _) => (match look st.own k with | some ob => ob.cells.flatMap Cell.refs | none => [])
    | _ => [])
def resVC (P : Program) : List ResultVar → St → PH → (List Value → Prop) → Prop
  | [], _, _, K => K []
  | .tmp t :: r, st, u, K => match st.part [] (.tmp t) with
    | some p => if p.refs.isEmpty then resVC P r st u fun vs => K (p.out :: vs) else False
    | none => False
  | .cell a t :: r, st, u, K => match st.cell [] (.tmp a) with
    | some (.own k off) => match look st.own k with
      | some ob => match takePart P t ob.cells off with
        | some p => if p.refs.isEmpty then resVC P r st u fun vs => K (p.out :: vs) else False
        | none => False
      | none => False
    | some (.ptr b off) => match shOf P t, isAggB P t with
      | some (.c s), some false => exSh s fun c => PH.cell u b off = some c.out ∧ resVC P r st u fun vs => K (c.out :: vs)
      | some (.agg l), some true => if P.cellsOf t = l.length then exShs l fun cs => PH.cells u b off (cs.map Cell.out) ∧ resVC P r st u fun vs => K ((Part.agg cs).out :: vs) else False
      | _, _ => False
    | _ => False
def retVC (P : Program) (rs : List ResultVar) (Q : Value → PH → Prop) (st : St) (u : PH) : Prop :=
  vcPub pubFuel (resRefs st rs) st u fun st u => resVC P rs st u fun
    | [v] => Q v u
    | vs => Q (.tuple vs.toArray) u
def initSlots : Nat → List Part → List (Nat × Entry)
  | _, [] => []
  | i, p :: r => (i, .ok (.p p)) :: initSlots (i + 1) r
def fnVC (P : Program) (H : Hints) (fn : Func) (args : List Part) (u : PH) (Q : Value → PH → Prop) : Prop :=
  match fn.body with
  | none => False
  | some c => if args.length ≤ fn.ntmps then
      codeVC P H none c { slots := initSlots 0 args, own := [], next := 1, dirty := [], n := fn.ntmps } u fun e st u => match e with
        | .ret => retVC P fn.results.toList Q st u
        | .normal => retVC P fn.results.toList Q st u
        | _ => False
    else False
end Go.Proofs.YtlmnfhhmgfnbpaaDoor.E
