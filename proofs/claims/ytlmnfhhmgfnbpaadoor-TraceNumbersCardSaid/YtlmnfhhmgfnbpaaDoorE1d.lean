/- THE ENGINE, part 2d: a region that draws its order. -/
import Derived.Test.YtlmnfhhmgfnbpaaDoorE1
namespace Go.Proofs.YtlmnfhhmgfnbpaaDoor.E
open Go
def predsDone (done : List Nat) (o : Oper) : Bool := o.after.toList.all fun e => !Region.binds .any e || hasN done e.on
def readyB (ops : Array Oper) (done : List Nat) (i : Nat) : Bool := !hasN done i && (match ops[i]? with | some o => predsDone done o | none => false)
def isLoad : Op → Bool
  | .load .. => true
  | _ => false
def pureK (P : Program) : Op → Bool
  | .move _ => true
  | .assign _ => true
  | .pick .. => true
  | .fieldAddr .. => true
  | .field .. => true
  | .extract .. => true
  | .build .. => true
  | .makeFunc .. => true
  | .nilCheck _ => true
  | .indexAddr .. => true
  | .binOp op t x y _ => isIntT P t || binKind P op t || eqKind P op t x y || structEq P op t
  | .convert _ d _ => isIntT P d
  | .slice t _ _ _ none => match P.underlying t with | some (.slice _) => true | some .string => true | _ => false
  | .unOp .not _ _ => true
  | .unOp .neg _ _ => true
  | .call { callee := .builtin .len, .. } => true
  | _ => false
def quietAt (P : Program) (ops : Array Oper) (i : Nat) : Bool := match ops[i]? with
  | some o => pureK P o.op || isLoad o.op
  | none => true
def noLoud (P : Program) (ops : Array Oper) (done : List Nat) : Bool := done.all (quietAt P ops)
def edgeOn (o : Oper) (i : Nat) : Bool := o.after.toList.any fun e => Region.binds .any e && e.on == i
def loadsOf (ops : Array Oper) : List Nat := (List.range ops.size).filter fun i => match ops[i]? with | some o => isLoad o.op | none => false
/-- what may turn known memory: it waits for all loads -/
def brs (P : Program) (ops : Array Oper) : List Nat := (List.range ops.size).filter fun b => match ops[b]? with
  | some o => !(pureK P o.op || isLoad o.op) && (loadsOf ops).all (edgeOn o)
  | none => false
def freeD (ops : Array Oper) (done : List Nat) (i : Nat) (oi : Oper) : Bool := (List.range ops.size).all fun j => j == i || hasN done j || match ops[j]? with
  | some oj => edgeOn oj i || oi.apart ops oj
  | none => true
def takeB (P : Program) (ops : Array Oper) (done : List Nat) (i : Nat) : Bool := readyB ops done i && match ops[i]? with
  | some o => (pureK P o.op || (isLoad o.op && noLoud P ops done)) && freeD ops done i o
  | none => false
/-- a quiet step -/
def takeStep (P : Program) (o : Oper) (st : St) (u : PH) (K : St → PH → Prop) : Prop :=
  match qEval P st [] o.op with
  | some x => K (st.put o.dst x) u
  | none => match o.op with
    | .nilCheck _ => opVC P st u o K
    | .load .. => opVC P st u o K
    | .indexAddr .. => opVC P st u o K
    | .slice .. => if pureK P o.op then opVC P st u o K else False
    | .binOp op t _ _ _ => if binKind P op t then opVC P st u o K else False
    | _ => False
def conjL : List Nat → (Nat → Prop) → Prop
  | [], _ => True
  | [i], f => f i
  | i :: r, f => f i ∧ conjL r f
/-- one's own blocks are where they were, and hold what they held -/
def sameOwn (st0 st : St) : Bool := (st0.own.all fun (k, _) => (look st.own k).isSome) && st.dirty.all fun k => Nat.ble st0.next k
def guarded (P : Program) (step : St → PH → (St → PH → Prop) → Prop) (ops : Array Oper) (o : Oper) (st : St) (u : PH) (K : St → PH → Prop) : Prop :=
  match o.guard with
  | none => step st u K
  | some (j, want) => guardG P step ops.toList o j want 12 st u K
def noSelB (ops : Array Oper) : Bool := ops.toList.all fun o => match o.op with | .select .. => false | .defer _ => false | _ => true
def drawVC (P : Program) (ops : Array Oper) (br : List Nat) (st0 : St) (u0 : PH) : Nat → List Nat → St → PH → (St → PH → Prop) → Prop
  | 0, done, st, u, K => match (List.range ops.size).filter (readyB ops done) with
    | [] => K st u
    | _ => False
  | n + 1, done, st, u, K => match (List.range ops.size).find? (takeB P ops done) with
    | some i => match ops[i]? with
      | some o => guarded P (takeStep P o) ops o st u0 fun st _ => drawVC P ops br st0 u0 n (i :: done) st u K
      | none => False
    | none => match (List.range ops.size).filter (readyB ops done) with
      | [] => K st u
      | rs => conjL rs fun i => if (quietAt P ops i && noLoud P ops done) = true then False else match ops[i]? with
        | some o => guarded P (fun st u K => stepVC P st u o K) ops o st u fun st u =>
            if hasN br i then drawVC P ops br st0 u0 n (i :: done) st u K
            else if sameOwn st0 st then Ext u0 u ∧ drawVC P ops br st0 u0 n (i :: done) st u K else False
        | none => False
/-- must what was known at the start be kept for loads that may come later? -/
def needS (P : Program) (ops : Array Oper) : Bool := (List.range ops.size).any fun i => match ops[i]? with
  | some o => !(pureK P o.op || isLoad o.op) && !hasN (brs P ops) i
  | none => false
def drawTop (P : Program) (ops : Array Oper) (st : St) (u : PH) (K : St → PH → Prop) : Prop :=
  if (P.follows .mixedOrders && noSelB ops) = true then
    if needS P ops then
      ∃ us : PH, Ext us u ∧ drawVC P ops (brs P ops) { st with dirty := [] } us ops.size [] { st with dirty := [] } u fun st' u' => K { st' with dirty := st'.dirty ++ st.dirty } u'
    else drawVC P ops (brs P ops) { st with dirty := [] } u ops.size [] { st with dirty := [] } u fun st' u' => K { st' with dirty := st'.dirty ++ st.dirty } u'
  else False
end Go.Proofs.YtlmnfhhmgfnbpaaDoor.E
