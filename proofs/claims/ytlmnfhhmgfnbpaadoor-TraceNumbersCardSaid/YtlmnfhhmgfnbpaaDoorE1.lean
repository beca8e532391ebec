/- THE ENGINE, part 2: the verification conditions. -/
import Derived.Test.YtlmnfhhmgfnbpaaDoorE0
namespace Go.Proofs.YtlmnfhhmgfnbpaaDoor.E
open Go

def boolOf : Cell → Option Bool
  | .lit b => some b
  | .v (.bool q) => some q
  | _ => none
def pickC (t : Bool) (x y : Cell) : Option Cell :=
  match x, y with
  | .lit true, y => (boolOf y).map fun q => .v (.bool (t || q))
  | .lit false, y => (boolOf y).map fun q => .v (.bool (!t && q))
  | x, .lit false => (boolOf x).map fun q => .v (.bool (t && q))
  | x, .lit true => (boolOf x).map fun q => .v (.bool (!t || q))
  | x, y => match boolOf x, boolOf y with
    | some p, some q => some (.v (.bool (cond t p q)))
    | _, _ => none
def intC (op : BinOp) (x y : Cell) : Option Cell :=
  match x, y with
  | .v (.int k a), .v (.int k' b) =>
    if k = k' then
      match op with
      | .add => some (.v (.int k (k.wrap (a + b))))
      | .sub => some (.v (.int k (k.wrap (a - b))))
      | .mul => some (.v (.int k (k.wrap (a * b))))
      | .eql => some (.v (.bool (a == b)))
      | .neq => some (.v (.bool (a != b)))
      | .lss => some (.v (.bool (decide (a < b))))
      | .leq => some (.v (.bool (decide (a ≤ b))))
      | .gtr => some (.v (.bool (decide (a > b))))
      | .geq => some (.v (.bool (decide (a ≥ b))))
      | .and => some (.v (.int k (k.wrap (BitVec.toNat (BitVec.ofInt k.bits a &&& BitVec.ofInt k.bits b)))))
      | .or => some (.v (.int k (k.wrap (BitVec.toNat (BitVec.ofInt k.bits a ||| BitVec.ofInt k.bits b)))))
      | .xor => some (.v (.int k (k.wrap (BitVec.toNat (BitVec.ofInt k.bits a ^^^ BitVec.ofInt k.bits b)))))
      | .andNot => some (.v (.int k (k.wrap (BitVec.toNat (BitVec.ofInt k.bits a &&& ~~~BitVec.ofInt k.bits b)))))
      | _ => none
    else none
  | _, _ => none
/-- what may fail: what is asked, and the outcome -/
def binC (op : BinOp) (x y : Cell) : Option (Prop × Cell) :=
  match op, x, y with
  | .quo, .v (.int k a), .v (.int k' b) => if k = k' then some (b ≠ 0, .v (.int k (k.wrap (a.tdiv b)))) else none
  | .rem, .v (.int k a), .v (.int k' b) => if k = k' then some (b ≠ 0, .v (.int k (a.tmod b))) else none
  | .shl, .v (.int k a), .v (.int _ b) => some (0 ≤ b, .v (.int k (k.wrap (a * 2 ^ (min b.toNat k.bits)))))
  | .shr, .v (.int k a), .v (.int _ b) => some (0 ≤ b, .v (.int k (a.fdiv (2 ^ (min b.toNat k.bits)))))
  | .add, .v (.string a), .v (.string b) => some (a.size + b.size ≤ 9223372036854775807, .v (.string (a ++ b)))
  | .lss, .v (.string a), .v (.string b) => some (True, .v (.bool (Op.bytesLess a.toList b.toList)))
  | .leq, .v (.string a), .v (.string b) => some (True, .v (.bool (Op.bytesLess a.toList b.toList || a.toList == b.toList)))
  | .gtr, .v (.string a), .v (.string b) => some (True, .v (.bool !(Op.bytesLess a.toList b.toList || a.toList == b.toList)))
  | .geq, .v (.string a), .v (.string b) => some (True, .v (.bool !Op.bytesLess a.toList b.toList))
  | _, _, _ => none
def isIntT (P : Program) (t : TypeId) : Bool := match P.underlying t with | some (.int _) => true | _ => false
def isStrT (P : Program) (t : TypeId) : Bool := match P.underlying t with | some .string => true | _ => false
/-- of which binC speaks -/
def binKind (P : Program) (op : BinOp) (t : TypeId) : Bool :=
  match op with
  | .quo => isIntT P t
  | .rem => isIntT P t
  | .shl => isIntT P t
  | .shr => isIntT P t
  | .add => isStrT P t
  | .lss => isStrT P t
  | .leq => isStrT P t
  | .gtr => isStrT P t
  | .geq => isStrT P t
  | _ => false
def isNilP : Operand → Bool
  | .const (.pointer none) => true
  | _ => false
def isNilS : Operand → Bool
  | .const (.slice none _ _) => true
  | _ => false
def nilP (neg : Bool) : Cell → Option Cell
  | .v (.pointer p) => some (.v (.bool (if neg then !p.isNone else p.isNone)))
  | .ptr _ _ => some (.lit neg)
  | .own _ _ => some (.lit neg)
  | _ => none
def nilS (neg : Bool) : Cell → Option Cell
  | .v (.slice a _ _) => some (.v (.bool (if neg then !a.isNone else a.isNone)))
  | _ => none
def boolEqC (neg : Bool) (x y : Cell) : Option Cell :=
  match boolOf x, boolOf y with
  | some a, some b => some (.v (.bool (if neg then !(a == b) else a == b)))
  | _, _ => none
def strEqC (neg : Bool) (x y : Cell) : Option Cell :=
  match x, y with
  | .v (.string a), .v (.string b) => some (.v (.bool (if neg then !(a.toList == b.toList) else a.toList == b.toList)))
  | _, _ => none
/-- '==' and '!=' of bools, strings, and with nil -/
def eqKind (P : Program) (op : BinOp) (t : TypeId) (x y : Operand) : Bool :=
  (match op with | .eql => true | .neq => true | _ => false) && (match P.underlying t with
    | some .bool => true
    | some .string => true
    | some (.pointer _) => isNilP x || isNilP y
    | some (.slice _) => isNilS x || isNilS y
    | _ => false)
def eqC (P : Program) (st : St) (g : Ctx) (neg : Bool) (t : TypeId) (x y : Operand) : Option Cell :=
  match P.underlying t, st.cell g x, st.cell g y with
  | some .bool, some a, some b => boolEqC neg a b
  | some .string, some a, some b => strEqC neg a b
  | some (.pointer _), some a, some b => if isNilP y then nilP neg a else if isNilP x then nilP neg b else none
  | some (.slice _), some a, some b => if isNilS y then nilS neg a else if isNilS x then nilS neg b else none
  | _, _, _ => none
def andL : List Bool → Bool
  | [] => true
  | [r] => r
  | r :: rs => r && andL rs
def eqFl (P : Program) (e : TypeId → Part → Part → Option Bool) (xs ys : List Cell) : List Field → Option (List Bool)
  | [] => some []
  | f :: fs => if f.name = "_" then eqFl P e xs ys fs else
    match takePart P f.type xs f.offset, takePart P f.type ys f.offset with
    | some p, some q => match e f.type p q, eqFl P e xs ys fs with
      | some r, some rs => some (r :: rs)
      | _, _ => none
    | _, _ => none
/-- '==' of structs, field by field -/
def eqT (P : Program) : Nat → TypeId → Part → Part → Option Bool
  | 0, _, _, _ => none
  | d + 1, t, p, q => match P.underlying t, p, q with
    | some .bool, .c x, .c y => match boolOf x, boolOf y with
      | some a, some b => some (a == b)
      | _, _ => none
    | some (.int _), .c (.v (.int k a)), .c (.v (.int k' b)) => if k = k' then some (a == b) else none
    | some .string, .c (.v (.string a)), .c (.v (.string b)) => some (a.toList == b.toList)
    | some (.struct fs), .agg xs, .agg ys => if P.stoodInHeld t then none else (eqFl P (eqT P d) xs ys fs.toList).map andL
    | _, _, _ => none
def structEq (P : Program) (op : BinOp) (t : TypeId) : Bool :=
  (match op with | .eql => true | .neq => true | _ => false) && (match P.underlying t with | some (.struct _) => !P.eqGuardType P.depth t | _ => false)
def isNeq : BinOp → Bool
  | .neq => true
  | _ => false
def notC : Cell → Option Cell
  | .lit b => some (.lit !b)
  | .v (.bool t) => some (.v (.bool !t))
  | _ => none
def negC : Cell → Option Cell
  | .v (.int k n) => some (.v (.int k (k.wrap (0 - n))))
  | _ => none
def offC (c : Cell) (off : Nat) : Option Cell :=
  match c with
  | .own k o => some (.own k (o + off))
  | .ptr b o => some (.ptr b (o + off))
  | _ => none
def capOf : Cell → Option Atom
  | .v x => some (.v x)
  | .vv x => some (.v x.1)
  | .lit b => some (.v (.bool b))
  | .ptr b o => some (.ptr b o)
  | .own k o => some (.own k o)
  | .fn _ _ => none
  | .undef => none
def Cell.isU : Cell → Bool
  | .undef => true
  | _ => false
def slotOf : Operand → Option Nat
  | .tmp t => some t
  | _ => none
/-- an operand that a guard by slot s (holding w) has let through -/
def St.svThen (st : St) (g : Ctx) (s : Nat) (w : Bool) (x : Operand) : Option SV := st.sv ((s, w) :: g) x
def fillC (P : Program) (place : Nat → Option (Nat × Nat)) (cs : List Cell) : List (Nat × Part) → Option (List Cell)
  | [] => some cs
  | (i, p) :: r => match place i with
    | some (off, size) => if p.cells.length = size ∧ off + size ≤ cs.length then fillC P place (setCells cs off p.cells) r else none
    | none => none
def structPlace (P : Program) (t : TypeId) (i : Nat) : Option (Nat × Nat) := match P.underlying t with
  | some (.array _ e) => some (i * P.cellsOf e, P.cellsOf e)
  | _ => (fieldOf P t i).map fun (off, ft) => (off, P.cellsOf ft)
def structOk (P : Program) (t : TypeId) : Bool := match P.underlying t with
  | some (.struct fs) => fs.toList.all fun f => (P.info? f.type).isSome
  | some (.array _ e) => (P.info? e).isSome
  | _ => false
def St.numbered (st : St) (g : Ctx) (l : List (Nat × Operand)) : Option (List (Nat × Part)) :=
  match l with
  | [] => some []
  | (i, x) :: r => match st.part g x, st.numbered g r with
    | some p, some ps => some ((i, p) :: ps)
    | _, _ => none
def atoms : List Cell → Option (List Atom)
  | [] => some []
  | c :: r => match capOf c, atoms r with
    | some a, some as => some (a :: as)
    | _, _ => none
def St.cellList (st : St) (g : Ctx) : List Operand → Option (List Cell)
  | [] => some []
  | x :: r => match st.cell g x, st.cellList g r with
    | some c, some cs => some (c :: cs)
    | _, _ => none
/-- what is done without looking at old memory, and cannot fail -/
def qEval (P : Program) (st : St) (g : Ctx) (op : Op) : Option SV :=
  match op with
  | .move x => st.sv g x
  | .assign x => st.sv g x
  | .pick c a b => match st.cell g c with
    | some (.lit true) => st.sv g a
    | some (.lit false) => st.sv g b
    | some (.v (.bool t)) => match slotOf c with
      | some s => match st.svThen g s true a, st.svThen g s false b with
        | some (.p (.c x)), some (.p (.c y)) => (pickC t x y).map fun c => .p (.c c)
        | _, _ => none
      | none => none
    | _ => none
  | .binOp op t x y _ => if isIntT P t then
      match st.cell g x, st.cell g y with
      | some x, some y => (intC op x y).map fun c => .p (.c c)
      | _, _ => none
    else if eqKind P op t x y then (eqC P st g (isNeq op) t x y).map fun c => .p (.c c)
    else if structEq P op t then match st.part g x, st.part g y with
      | some p, some q => (eqT P 8 t p q).map fun r => .p (.c (.v (.bool (if isNeq op then !r else r))))
      | _, _ => none
    else none
  | .convert s d x => match P.underlying s, P.underlying d, st.cell g x with
    | some _, some (.int k), some (.v (.int _ n)) => some (.p (.c (.v (.int k (k.wrap n)))))
    | some _, some .string, some (.v (.string s)) => some (.p (.c (.v (.string s))))
    | _, _, _ => none
  | .unOp .not _ x => ((st.cell g x).bind notC).map fun c => .p (.c c)
  | .unOp .neg _ x => ((st.cell g x).bind negC).map fun c => .p (.c c)
  | .fieldAddr t x f => match fieldOf P t f, st.cell g x with
    | some (off, ft), some c => if P.cellsOf ft = 0 then none else (offC c off).map fun c => .p (.c c)
    | _, _ => none
  | .field t x f => match fieldOf P t f, st.part g x with
    | some (off, ft), some (.agg cs) => (takePart P ft cs off).map .p
    | _, _ => none
  | .extract x i => match st.sv g x with
    | some (.tup ps) => (ps[i]?).map .p
    | _ => none
  | .load t x => match st.cell g x with
    | some (.own k o) => match look st.own k with
      | some ob => (takePart P t ob.cells o).map .p
      | none => none
    | _ => none
  | .build t parts => match zeroCells P t, st.numbered g parts.toList with
    | some z, some ps => if structOk P t then (fillC P (structPlace P t) z ps).map fun cs => .p (.agg cs) else none
    | _, _ => none
  | .makeFunc (.func f) first caps => if first.size = 0 then
      match st.cellList g caps.toList with
      | some cs => (atoms cs).map fun as => .p (.c (.fn f as))
      | none => none
    else none
  | .call { callee := .builtin .len, args, argTypes } => match args.toList, argTypes.toList with
    | [x], [t] => match P.underlying t, st.cell g x with
      | some (.slice _), some (.v (.slice _ n _)) => some (.p (.c (.v (.int .i64 n))))
      | some .string, some (.v (.string s)) => some (.p (.c (.v (.int .i64 s.size))))
      | _, _ => none
    | _, _ => none
  | _ => none

/-- what is asked for is handed over to known memory: each of one's own blocks that is named gets a number b of which nothing was known. -/
def vcPub : Nat → List Nat → St → PH → (St → PH → Prop) → Prop
  | _, [], st, u, K => K st u
  | 0, _ :: _, _, _, _ => False
  | n + 1, k :: r, st, u, K => match look st.own k with
    | none => vcPub n r st u K
    | some ob => match ob.cells.flatMap Cell.refs with
      | [] => ∀ b, u b = none → vcPub n r (st.pub k b) (PH.add u b (.cells (ob.cells.map Cell.out).toArray ob.ty)) K
      | inner => vcPub n (inner ++ k :: r) st u K
def pubFuel : Nat := 60

/-- a result of type t that was told as v -/
def resShs (P : Program) (t : TypeId) : Option (List PSh) :=
  match P.underlying t with
  | some (.tuple ts) => ts.toList.mapM (shOf P)
  | _ => (shOf P t).map fun s => [s]
def exRes (P : Program) (t : TypeId) (v : Value) (K : SV → Prop) : Prop :=
  match resShs P t with
  | some [s] => exP s fun p => v = p.out ∧ K (.p p)
  | some ss => exPs ss fun ps => v = .tuple (ps.map Part.out).toArray ∧ K (.tup ps)
  | none => False
def entersB (P : Program) (f : FuncId) : Bool :=
  match P.funcs[f]? with
  | some fn => fn.name != "runtime.NumGoroutine" && fn.body.isSome
  | none => false
/-- a call of a function value that came from somewhere -/
def CallF (P : Program) (x : Value) (args : List Value) (u : PH) (Q : Value → PH → Prop) : Prop :=
  ∃ f caps, x = .func (.func f) #[] caps ∧ entersB P f = true ∧ Spec P f (args.toArray ++ caps) u Q
def CallV (P : Program) (x : Value) (args : List Value) (u : PH) (Q : Value → PH → Prop) : Prop :=
  CallF P x args u Q ∨ ∃ l, x = .func (.yield l) #[] #[] ∧ YieldV P l args u Q
/-- an operation of the model's, its operands told -/
def semOf (op : Op) (ty : TypeId) (vs : List Value) : Option (Sem Value) :=
  match op, vs with
  | .binOp op t x y _, [a, b] => some (do eqGuard op t x y a b; binOp op t a b)
  | .unOp op _ _, [a] => some (Op.unary op a)
  | .convert s d _, [a] => some (convert s d a)
  | .slice t _ none none none, [a] => some (Instr.sliceAt t a none none none)
  | .slice t _ (some _) none none, [a, l] => some (Instr.sliceAt t a (some l) none none)
  | .slice t _ none (some _) none, [a, h] => some (Instr.sliceAt t a none (some h) none)
  | .slice t _ (some _) (some _) none, [a, l, h] => some (Instr.sliceAt t a (some l) (some h) none)
  | .slice t _ (some _) (some _) (some _), [a, l, h, m] => some (Instr.sliceAt t a (some l) (some h) (some m))
  | .index t _ _, [a, i] => some (Instr.index t a i)
  | .range t _, [a] => some (Instr.range t a)
  | .next _ s, [a] => some (Instr.next a s ty)
  | .makeSlice t _ _, [l, c] => some (Instr.makeSlice t l c)
  | .call { callee := .builtin .append, argTypes, .. }, vs => some (Builtin.append_ argTypes ty vs.toArray)
  | .call { callee := .builtin .cap, argTypes, .. }, vs => some (Builtin.cap_ argTypes ty vs.toArray)
  | .call { callee := .builtin .copy, argTypes, .. }, vs => some (Builtin.copy_ argTypes ty vs.toArray)
  | .call { callee := .builtin .max, argTypes, .. }, vs => some (Builtin.max_ argTypes ty vs.toArray)
  | .call { callee := .builtin .min, argTypes, .. }, vs => some (Builtin.min_ argTypes ty vs.toArray)
  | .call { callee := .builtin .len, argTypes, .. }, vs => some (Builtin.len_ argTypes ty vs.toArray)
  | _, _ => none
/-- what an operation gives: of a range it is a place, of a string's next one the end, or a place and a letter -/
def opResVC (P : Program) (o : Oper) (v : Value) (K : SV → Prop) : Prop :=
  match o.op with
  | .range _ _ => ∃ p, v = .pointer p ∧ K (.p (.c (.v (.pointer p))))
  | .next _ true => (v = .tuple #[.bool false] ∧ K (.tup [.c (.lit false)])) ∨ ∃ n c : Int, v = .tuple #[.bool true, .int .i64 n, .int .i32 c] ∧ K (.tup [.c (.lit true), .c (.v (.int .i64 n)), .c (.v (.int .i32 c))])
  | _ => exRes P o.type v K
def opers (op : Op) : List Operand :=
  match op with
  | .call c => c.args.toList
  | _ => op.operands.toList
def St.vals (st : St) (l : List Operand) : Option (List Value) :=
  match st.parts [] l with
  | some ps => if (ps.flatMap Part.refs).isEmpty then some (ps.map Part.out) else none
  | none => none
def St.refsOf (st : St) (l : List Operand) : List Nat :=
  match st.parts [] l with
  | some ps => ps.flatMap Part.refs
  | none => []

/-- whatever else the model does -/
def semVC (P : Program) (st : St) (u : PH) (o : Oper) (K : St → PH → Prop) : Prop :=
  vcPub pubFuel (st.refsOf (opers o.op)) st u fun st u =>
    match st.vals (opers o.op) with
    | some vs => match semOf o.op o.type vs with
      | some s => SemSpec P s u fun v u' => opResVC P o v fun x => K (st.put o.dst x) u'
      | none => False
    | none => False
def St.intAt (st : St) (d : Int) : Option Operand → Option Int
  | none => some d
  | some o => match st.cell [] o with
    | some (.v (.int _ n)) => some n
    | _ => none
/-- where a part of a slice lies -/
def subA (a : Option Addr) (l cap size : Nat) : Option Addr := if cap = l then a else a.map (·.add (l * size))
def opVC (P : Program) (st : St) (u : PH) (o : Oper) (K : St → PH → Prop) : Prop :=
  match o.op with
  | .nilCheck x => match st.cell [] x with
    | some (.v (.pointer p)) => ∃ b off, p = some ⟨b, off, none⟩ ∧ K (st.put o.dst (.p (.c (.ptr b off)))) u
    | some (.own k off) => K (st.put o.dst (.p (.c (.own k off)))) u
    | some (.ptr b off) => K (st.put o.dst (.p (.c (.ptr b off)))) u
    | _ => False
  | .load t x => match st.cell [] x, shOf P t, isAggB P t with
    | some (.ptr b off), some (.c s), some false => exSh s fun c => PH.cell u b off = some c.out ∧ K (st.put o.dst (.p (.c c))) u
    | some (.ptr b off), some (.agg l), some true => if P.cellsOf t = l.length then exShs l fun cs => PH.cells u b off (cs.map Cell.out) ∧ K (st.put o.dst (.p (.agg cs))) u else False
    | _, _, _ => False
  | .store t x y => match st.cell [] x, st.part [] y with
    | some (.own k off), some p => match look st.own k with
      | some ob => if (P.info? t).isSome = true ∧ p.cells.length = P.cellsOf t ∧ off + p.cells.length ≤ ob.cells.length ∧ p.cells.all (fun c => !c.isU) = true then
          K ({ st with own := (k, { ob with cells := setCells ob.cells off p.cells }) :: st.own, dirty := k :: st.dirty }.put o.dst (.p (.c undefC))) u else False
      | none => False
    | some (.ptr b off), some p => vcPub pubFuel p.refs st u fun st u => match st.part [] y with
      | some p => if (P.info? t).isSome = true ∧ p.cells.length = P.cellsOf t ∧ p.cells.all (fun c => !c.isU) = true ∧ p.refs.isEmpty = true then PH.free u b off p.cells.length ∧ K (st.put o.dst (.p (.c undefC))) (PH.write u b off (p.cells.map Cell.out)) else False
      | none => False
    | _, _ => False
  | .alloc t => match zeroCells P t with
    | some z => K ({ st with own := (st.next, ⟨t, z⟩) :: st.own, next := st.next + 1 }.put o.dst (.p (.c (.own st.next 0)))) u
    | none => False
  | .box t x => match st.part [] x with
    | some p => K ({ st with own := (st.next, ⟨t, p.cells⟩) :: st.own, next := st.next + 1 }.put o.dst (.p (.c (.own st.next 0)))) u
    | none => False
  | .buildSlice t len parts => vcPub pubFuel (st.refsOf (parts.toList.map (·.2))) st u fun st u =>
      match P.underlying t with
      | some (.slice e) => match zeroCells P e, st.numbered [] parts.toList with
        | some z, some ps => if len * P.cellsOf e ≤ 2 ^ 24 ∧ z.length = P.cellsOf e ∧ 0 < P.cellsOf e ∧ (ps.flatMap fun y => y.2.refs).isEmpty = true then
            match fillC P (fun i => some (i * P.cellsOf e, P.cellsOf e)) (List.replicate len z).flatten ps with
            | some cs => ∀ b, u b = none → K (st.put o.dst (.p (.c (.v (.slice (some ⟨b, 0, none⟩) len len))))) (PH.add u b (.cells (cs.map Cell.out).toArray e))
            | none => False
          else False
        | _, _ => False
      | _ => False
  | .indexAddr t x i => match P.underlying t, st.cell [] x, st.cell [] i with
    | some (.slice e), some (.v (.slice a len _)), some (.v (.int _ n)) => if (P.info? e).isSome = true then ∃ b off, a = some ⟨b, off, none⟩ ∧ (0 ≤ n ∧ n < len) ∧ K (st.put o.dst (.p (.c (.ptr b (off + n.toNat * P.cellsOf e))))) u else False
    | some (.array len e), some (.ptr b off), some (.v (.int _ n)) => if (P.info? e).isSome = true then (0 ≤ n ∧ n < (len : Int)) ∧ K (st.put o.dst (.p (.c (.ptr b (off + n.toNat * P.cellsOf e))))) u else False
    | _, _, _ => False
  | .call { callee := .value f, args, .. } => match st.cell [] f with
    | some fc => vcPub pubFuel (fc.refs ++ st.refsOf args.toList) st u fun st u =>
      match st.cell [] f, st.vals args.toList with
      | some (.fn g caps), some vs => if entersB P g = true ∧ (caps.flatMap Atom.refs).isEmpty = true then Spec P g (vs ++ caps.map (Atom.toV fun k => k)).toArray u fun v u' => exRes P o.type v fun x => K (st.put o.dst x) u' else False
      | some (.vv x), some vs => CallV P x.1 vs u fun v u' => exRes P o.type v fun x => K (st.put o.dst x) u'
      | _, _ => False
    | none => False
  | .binOp op t x y _ => if binKind P op t = true then
      match st.cell [] x, st.cell [] y with
      | some x, some y => match binC op x y with
        | some (p, c) => p ∧ K (st.put o.dst (.p (.c c))) u
        | none => False
      | _, _ => False
    else semVC P st u o K
  | .slice t x lo hi none => match P.underlying t with
    | some (.slice e) => match st.cell [] x, st.intAt 0 lo with
      | some (.v (.slice a len cap)), some l => match st.intAt len hi with
        | some h => if (P.info? e).isSome = true then
            (0 ≤ l ∧ l ≤ h ∧ h ≤ cap) ∧ K (st.put o.dst (.p (.c (.v (.slice (subA a l.toNat cap (P.cellsOf e)) (h.toNat - l.toNat) (cap - l.toNat)))))) u
          else False
        | none => False
      | _, _ => False
    | some .string => match st.cell [] x, st.intAt 0 lo with
      | some (.v (.string s)), some l => match st.intAt s.size hi with
        | some h => (0 ≤ l ∧ l ≤ h ∧ h ≤ s.size) ∧ K (st.put o.dst (.p (.c (.v (.string (s.extract l.toNat h.toNat)))))) u
        | none => False
      | _, _ => False
    | _ => semVC P st u o K
  | _ => semVC P st u o K

def stepVC (P : Program) (st : St) (u : PH) (o : Oper) (K : St → PH → Prop) : Prop :=
  match qEval P st [] o.op with
  | some x => K (st.put o.dst x) u
  | none => opVC P st u o K

def dstNe (d : Option Tmp) (s : Nat) : Bool := match d with | some d => d != s | none => true
def refsB (n : Nat) (l : List Nat) : Bool := l.all fun r => Nat.blt 0 r && Nat.blt r n
/-- an operation with its guard -/
def guardG (P : Program) (step : St → PH → (St → PH → Prop) → Prop) (ops : List Oper) (o : Oper) (j : Nat) (want : Bool) : Nat → St → PH → (St → PH → Prop) → Prop
  | 0, _, _, _ => False
  | n + 1, st, u, K => match (ops[j]?).bind (·.dst) with
    | none => False
    | some s => match look st.slots s with
      | some (.ok (.p (.c (.lit b)))) => if b = want then step st u K else K (st.put o.dst (.p (.c undefC))) u
      | some (.ok (.p (.c (.v (.bool t))))) => match qEval P st [(s, want)] o.op with
        | some x => if (dstNe o.dst s && refsB st.next x.refs) = true then K (st.putG o.dst s want x) u else False
        | none => (t = true → guardG P step ops o j want n (st.assume s true) u K) ∧ (t = false → guardG P step ops o j want n (st.assume s false) u K)
      | some (.ok (.p (.c .undef))) => K (st.put o.dst (.p (.c undefC))) u
      | some (.grd s' w' _) => match qEval P st (st.chain 20 s want) o.op with
        | some x => if (dstNe o.dst s && refsB st.next x.refs) = true then K (st.putG o.dst s want x) u else False
        | none => match (st.chain 20 s' w').getLast? with
          | some (s0, _) => match st.cell [] (.tmp s0) with
            | some (.v (.bool t)) => (t = true → guardG P step ops o j want n (st.assume s0 true) u K) ∧ (t = false → guardG P step ops o j want n (st.assume s0 false) u K)
            | _ => False
          | none => False
      | _ => False

def guardVC (P : Program) (ops : List Oper) (o : Oper) (j : Nat) (want : Bool) (n : Nat) (st : St) (u : PH) (K : St → PH → Prop) : Prop :=
  guardG P (fun st u K => stepVC P st u o K) ops o j want n st u K

def opsVC (P : Program) (ops : List Oper) : List Oper → St → PH → (St → PH → Prop) → Prop
  | [], st, u, K => K st u
  | o :: r, st, u, K => match o.guard with
    | none => stepVC P st u o fun st u => opsVC P ops r st u K
    | some (j, want) => guardVC P ops o j want 12 st u fun st u => opsVC P ops r st u K
end Go.Proofs.YtlmnfhhmgfnbpaaDoor.E
