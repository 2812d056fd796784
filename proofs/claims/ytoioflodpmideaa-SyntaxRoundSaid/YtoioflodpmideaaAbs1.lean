/- The abstract machine over the kit's model: its values, states, and what it does at an operation. No theorem of a program here. -/
import Derived.Calls
import Derived.Orders
import Derived.Laws.AppendOwn
import Derived.KernelRfl
namespace Go.Abs

/-- The bytes of a string. -/
abbrev Str := List UInt8

/-- Pure data, one cell. -/
inductive C where
  | lit (v : Value)
  | str (s : Str)
  | sl (sz : Nat) (l : List (List C))
  | ref (l : List C)

/-- An abstract cell. -/
inductive A where
  | c (x : C)
  | nil (sz : Nat)
  | ptr (o off : Nat)
  | own (sz : Nat) (l : List (List C)) (o : Nat)
  | fn (f : FuncId) (first caps : List A)
  | any

/-- An abstract value of a slot. -/
inductive V where
  | one (a : A)
  | agg (l : List A)
  | tup (l : List V)
  | eptr (sz : Nat) (l : List (List C)) (i off : Nat)
  /-- the address of the first byte of a row's -/
  | sdat (l : List (List C)) (o : Nat)
  | any

/-- An abstract object: it owns a whole block of the heap. -/
inductive O where
  | dead
  | var (t : TypeId) (l : List A)
  | row (e : TypeId) (sz : Nat)

abbrev A.int (k : IntKind) (n : Int) : A := .c (.lit (.int k n))
abbrev A.bool (b : Bool) : A := .c (.lit (.bool b))
abbrev A.str (s : Str) : A := .c (.str s)
abbrev V.int (k : IntKind) (n : Int) : V := .one (.int k n)
abbrev V.bool (b : Bool) : V := .one (.bool b)
abbrev V.str (s : Str) : V := .one (.str s)
abbrev V.sl (sz : Nat) (l : List (List C)) : V := .one (.c (.sl sz l))

def get {α : Type} : List (Nat × α) → Nat → Option α
  | [], _ => none
  | (j, x) :: r, i => cond (Nat.beq j i) (some x) (get r i)

/-- What is known of a type. -/
structure TI where
  desc : TypeDesc
  size : Nat
  bytes : Nat
  zero : Value
  /-- the zero value's cells, as abstract ones -/
  zs : List A
  /-- it may be held against another by == as its parts are -/
  std : Bool
  /-- variables of which types lie where in one of it -/
  sub : List (Nat × Nat)

abbrev Lay := List (Nat × TI)

def isAggD : TypeDesc → Bool
  | .struct _ => true
  | .array _ _ => true
  | _ => false

def A.ofV : Value → A
  | .string s => .c (.str s.data.toList)
  | v => .c (.lit v)

/-- A cell of data as a slice's. -/
def A.toC : A → Option C
  | .c x => some x
  | .nil sz => some (.sl sz [])
  | .own sz l _ => some (.sl sz l)
  | _ => none

def toCs : List A → Option (List C)
  | [] => some []
  | a :: r => match a.toC, toCs r with
    | some x, some l => some (x :: l)
    | _, _ => none

structure St where
  slots : List (Nat × V)
  objs : List (Nat × O)
  /-- the next free number of an object -/
  next : Nat
  /-- how many slots the frame has -/
  size : Nat
  /-- how many objects the call got -/
  k : Nat

/-- A constant, of a type. -/
def constA (L : Lay) (ty : TypeId) (v : Value) : A :=
  match v with
  | .slice none 0 0 => match get L ty with
    | some ti => match ti.desc with
      | .slice e => match get L e with
        | some te => .nil te.size
        | none => .c (.lit v)
      | _ => .c (.lit v)
    | none => .c (.lit v)
  | v => A.ofV v

def St.val (L : Lay) (st : St) (ty : TypeId) : Operand → Option V
  | .tmp t => get st.slots t
  | .const v => if v.oneCell' then some (.one (constA L ty v)) else none
  | .func f => some (.one (.fn f [] []))
  | .global _ => none

/-- What an operation brings: the value for its slot, the objects that it writes (new ones too), those that it reads. -/
structure Eff where
  val : V
  upd : List (Nat × O) := []
  reads : List Nat := []

/-- What the generator tells of an operation that hangs on more than the state's shape. -/
inductive Orc where
  /-- the row that an element's address points into -/
  | row (r : List C)
  /-- another word for the value that the operation brings -/
  | rep (v : V)
  /-- a call: the caller's objects that it gets, the objects behind it (numbered as the callee does), its result; which of the variables that it got come back as they were -/
  | call (is : List Nat) (objs : List O) (r : V) (ks : List Nat := [])
  /-- the value as data -/
  | dat
  /-- a string's bytes -/
  | bytes (s : Str)

/- Renaming of objects; what is not named is forgotten. -/
mutual
def A.ren (m : List (Nat × Nat)) : A → A
  | .c x => .c x
  | .nil sz => .nil sz
  | .ptr o off => match get m o with
    | some o' => .ptr o' off
    | none => .any
  | .own sz l o => match get m o with
    | some o' => .own sz l o'
    | none => .c (.sl sz l)
  | .fn f first caps => .fn f (renAs m first) (renAs m caps)
  | .any => .any
def renAs (m : List (Nat × Nat)) : List A → List A
  | [] => []
  | a :: r => a.ren m :: renAs m r
end

mutual
def V.ren (m : List (Nat × Nat)) : V → V
  | .one a => .one (a.ren m)
  | .agg l => .agg (renAs m l)
  | .tup l => .tup (renVs m l)
  | .eptr sz l i off => .eptr sz l i off
  | .sdat l o => match get m o with
    | some o' => .sdat l o'
    | none => .any
  | .any => .any
def renVs (m : List (Nat × Nat)) : List V → List V
  | [] => []
  | a :: r => a.ren m :: renVs m r
end

def O.ren (m : List (Nat × Nat)) : O → O
  | .dead => .dead
  | .var t l => .var t (renAs m l)
  | .row e sz => .row e sz

def V.cells : V → Option (List A)
  | .one a => some [a]
  | .agg l => some l
  | _ => none

/-- cells off .. off + n of a list -/
def seg {α : Type} (l : List α) (off n : Nat) : Option (List α) :=
  if off + n ≤ l.length then some ((l.drop off).take n) else none

def V.ofCells (agg : Bool) (l : List A) : Option V :=
  if agg then some (.agg l) else match l with
    | [a] => some (.one a)
    | _ => none

def setSeg {α : Type} (l : List α) (off : Nat) (x : List α) : List α := l.take off ++ x ++ l.drop (off + x.length)

/-- a part of a list of cells, as a value of a type -/
def partA (ti : TI) (l : List A) (off : Nat) : Option V :=
  match seg l off ti.size with
  | some cs => V.ofCells (isAggD ti.desc) cs
  | none => none

def fillA (place : Nat → Option (Nat × Nat)) (cells : List A) : List (Nat × V) → Option (List A)
  | [] => some cells
  | (i, v) :: rest => match place i, v.cells with
    | some (off, size), some cs =>
      if cs.length = size ∧ off + size ≤ cells.length then fillA place (setSeg cells off cs) rest else none
    | _, _ => none

def fieldPlaces (L : Lay) : List Field → Option (List (Nat × Nat))
  | [] => some []
  | f :: r => match get L f.type, fieldPlaces L r with
    | some ti, some l => some ((f.offset, ti.size) :: l)
    | _, _ => none

def mapParts (f : Nat → Operand → Option V) : List (Nat × Operand) → Option (List (Nat × V))
  | [] => some []
  | (i, x) :: r => match f i x, mapParts f r with
    | some v, some l => some ((i, v) :: l)
    | _, _ => none

def valAll (f : TypeId → Operand → Option V) : List (TypeId × Operand) → Option (List V)
  | [] => some []
  | (t, x) :: r => match f t x, valAll f r with
    | some v, some l => some (v :: l)
    | _, _ => none

/-- rows of a length -/
def rowsOf (sz : Nat) : Nat → List C → Option (List (List C))
  | 0, [] => some []
  | 0, _ :: _ => none
  | n + 1, l => if sz ≤ l.length then (rowsOf sz n (l.drop sz)).map (l.take sz :: ·) else none

def rep {α : Type} (l : List α) : Nat → List α
  | 0 => []
  | n + 1 => l ++ rep l n

def intBinA (op : BinOp) (k : IntKind) (x y : Int) : Option (V × Prop) :=
  match op with
  | .add => some (.int k (k.wrap (x + y)), True)
  | .sub => some (.int k (k.wrap (x - y)), True)
  | .mul => some (.int k (k.wrap (x * y)), True)
  | .quo => some (.int k (k.wrap (x.tdiv y)), y ≠ 0)
  | .rem => some (.int k (x.tmod y), y ≠ 0)
  | .eql => some (.bool (decide (x = y)), True)
  | .neq => some (.bool (!decide (x = y)), True)
  | .lss => some (.bool (decide (x < y)), True)
  | .leq => some (.bool (decide (x ≤ y)), True)
  | .gtr => some (.bool (decide (y < x)), True)
  | .geq => some (.bool (decide (y ≤ x)), True)
  | _ => none

/-- what a binary operation owes -/
def owesB (op : BinOp) (v : V) (p : Prop) : List Prop :=
  match op with
  | .quo => [p]
  | .rem => [p]
  | .add => match v with
    | .one (.c (.str _)) => [p]
    | _ => []
  | _ => []

def strBinA (op : BinOp) (x y : Str) : Option (V × Prop) :=
  match op with
  | .add => some (.str (x ++ y), x.length + y.length ≤ 9223372036854775807)
  | .eql => some (.bool (decide (x = y)), True)
  | .neq => some (.bool (!decide (x = y)), True)
  | _ => none

def binA (ti : Option TI) (op : BinOp) (x y : V) : Option (V × Prop) :=
  match x, y with
  | .one (.c (.lit (.int k a))), .one (.c (.lit (.int k' b))) => if k = k' then intBinA op k a b else none
  | .one (.c (.str a)), .one (.c (.str b)) => strBinA op a b
  | .one (.c (.lit (.bool a))), .one (.c (.lit (.bool b))) => match ti with
    | some ti => match ti.desc, op with
      | .bool, .eql => some (.bool (a == b), True)
      | .bool, .neq => some (.bool (!(a == b)), True)
      | _, _ => none
    | none => none
  | _, _ => none

/-- where a callee's object lies in the caller's numbers: variables that came in keep theirs; others get new ones -/
def tgt (fresh : Nat) (is : List Nat) (os : List O) (j : Nat) : Nat :=
  match is[j]?, os[j]? with
  | some i, some (.var _ _) => i
  | _, _ => fresh + j

def bkMap (fresh : Nat) (is : List Nat) (os : List O) : Nat → Nat → List (Nat × Nat)
  | _, 0 => []
  | j, n + 1 => (j, tgt fresh is os j) :: bkMap fresh is os (j + 1) n

def inMap : List Nat → Nat → List (Nat × Nat)
  | [], _ => []
  | i :: r, j => (i, j) :: inMap r (j + 1)

def updBack (m : List (Nat × Nat)) : List O → Nat → List (Nat × O)
  | [], _ => []
  | o :: r, j => match get m j with
    | some i => (i, o.ren m) :: updBack m r (j + 1)
    | none => updBack m r (j + 1)

def O.isVar : O → Bool
  | .var _ _ => true
  | _ => false

def O.live : O → Bool
  | .dead => false
  | _ => true

def deadRows : List Nat → List O → List (Nat × O)
  | i :: is, o :: os => cond o.isVar (deadRows is os) ((i, .dead) :: deadRows is os)
  | _, _ => []

def memB (i : Nat) : List Nat → Bool
  | [] => false
  | j :: r => Nat.beq i j || memB i r

/-- entries that say nothing new are dropped -/
def dropK (is : List Nat) (ks : List Nat) : List (Nat × O) → List (Nat × O)
  | [] => []
  | (i, o) :: r => cond (ks.any fun j => match is[j]? with | some i' => Nat.beq i' i | none => false) (dropK is ks r) ((i, o) :: dropK is ks r)

def keepVars (os : List O) : List Nat → Bool
  | [] => true
  | j :: r => (match os[j]? with | some o => o.isVar | none => false) && keepVars os r

def keepP (bk : List (Nat × Nat)) (objs os : List O) : List Nat → List Prop
  | [] => []
  | j :: r => ((objs[j]?).map (·.ren bk) = os[j]?) :: keepP bk objs os r

def nodupB : List Nat → Bool
  | [] => true
  | i :: r => !memB i r && nodupB r

/-- the kinds of objects behind a call are right -/
def kindsOk : List O → List O → Bool
  | [], _ => true
  | _ :: _, [] => false
  | o :: r, o' :: r' => o.live && (!o.isVar || o'.isVar) && kindsOk r r'

def allFresh {α : Type} (l : List (Nat × α)) : Nat → Nat → Bool
  | _, 0 => true
  | i, n + 1 => (get l i).isNone && allFresh l (i + 1) n

end Go.Abs
